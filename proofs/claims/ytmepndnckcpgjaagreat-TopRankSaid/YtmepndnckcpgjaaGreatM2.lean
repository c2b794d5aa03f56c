/- Words: what is kept while the corners are gathered. Walks: what Corners does at each order. Walks: the orders, with what Corners does at each. Walks: orders. Plain laws: compacting, from the front. No condition. Words: the cells of a row while it is compacted. Walks: slices.CompactFunc at rows. Walks: Corners. -/
import Derived.Test.YtmepndnckcpgjaaGreatBase7
import Derived.Test.YtmepndnckcpgjaaGreatPlain17
import Derived.Test.YtmepndnckcpgjaaGreatW7
import Derived.Deep.RegionHeld
import Derived.Deep.RegionLaw
import Derived.Test.YtmepndnckcpgjaaGreatW42
import Derived.Test.YtmepndnckcpgjaaGreatW8
import Derived.Test.YtmepndnckcpgjaaGreatPlain15
import Derived.Test.YtmepndnckcpgjaaGreatW38
import Derived.Test.YtmepndnckcpgjaaGreatW39
import Derived.Lib.SliceRun
import Derived.Test.YtmepndnckcpgjaaGreatW9
namespace Go.Proofs.YtmepndnckcpgjaaGreat
open Go.RowKit
/-- A block of neither a slice of slices nor a variable of that kind. -/
def Plain33 (w : World) (i : Nat) : Prop := ∃ cs t fr, w.heap[i]? = some (.cells cs t fr) ∧ t ≠ 23 ∧ t ≠ 29
/-- The blocks below B and those of other kinds have not turned. -/
structure KeptT (B : Nat) (w w' : World) : Prop where
  os : w'.os = w.os
  tape : w'.tape = w.tape
  output : w'.output = w.output
  size : w.heap.size ≤ w'.heap.size
  block : ∀ i, i < w.heap.size → (i < B ∨ Plain33 w i) → w'.heap[i]? = w.heap[i]?
theorem KeptT.refl (B : Nat) (w : World) : KeptT B w w := ⟨rfl, rfl, rfl, Nat.le_refl _, fun _ _ _ => rfl⟩
theorem Plain33.same {w w' : World} {i : Nat} (h : Plain33 w i) (e : w'.heap[i]? = w.heap[i]?) : Plain33 w' i := by
  obtain ⟨cs, t, fr, h1, h2⟩ := h
  exact ⟨cs, t, fr, e.trans h1, h2⟩
theorem KeptT.trans {B : Nat} {a b c : World} (h : KeptT B a b) (k : KeptT B b c) : KeptT B a c :=
  ⟨k.os.trans h.os, k.tape.trans h.tape, k.output.trans h.output, Nat.le_trans h.size k.size, fun i hi hp => by
    have e := h.block i hi hp
    exact (k.block i (Nat.lt_of_lt_of_le hi h.size) (hp.imp id fun hp => hp.same e)).trans e⟩
theorem KeptT.of {B : Nat} {w w' : World} (h : Below w.heap.size w w') : KeptT B w w' := ⟨h.os, h.tape, h.output, h.size, fun i hi _ => h.block i hi⟩
theorem KeptT.below {B : Nat} {a w w' : World} (h : Below B a w) (k : KeptT B w w') (hB : B ≤ w.heap.size) : Below B a w' :=
  ⟨k.os.trans h.os, k.tape.trans h.tape, k.output.trans h.output, Nat.le_trans h.size k.size, fun i hi => (k.block i (Nat.lt_of_lt_of_le hi hB) (.inl hi)).trans (h.block i hi)⟩
theorem KeptT.grown {B : Nat} {w w' : World} {v : Value} {vs : List Value} (hr : RowV w B v vs) (hg : w.grownBy w' v.ownBlock) : KeptT B w w' :=
  ⟨hg.os, hg.tape, hg.output, hg.size, fun i hi hp => by
    refine hg.block i hi fun e => ?_
    rcases hr.2 with ⟨e3, _⟩ | ⟨g, cap, cur, e3, hb, hh, _⟩
    · rw [e3] at e; simp [Value.ownBlock] at e
    · rw [e3] at e
      simp [Value.ownBlock] at e
      subst e
      rcases hp with hp | ⟨cs, t, fr, h1, h2, _⟩
      · omega
      · rw [hh] at h1
        injection h1 with h1
        injection h1 with _ h6 _
        exact h2 h6.symm⟩
theorem KeptT.set {B : Nat} {w : World} {v0 : Value} {fr : Nat × Nat} (h : w.heap[B]? = some (.cells #[v0] 29 fr)) (v : Value) : KeptT B w (w.setCell ⟨B, 0, none⟩ v) :=
  ⟨rfl, rfl, rfl, by simp [World.setCell], fun i hi hp => Below.heap_setCell w ⟨B, 0, none⟩ v i fun e => by
    have e : i = B := e
    subst e
    rcases hp with hp | ⟨cs, t, fr', h1, _, h3⟩
    · omega
    · rw [h] at h1
      injection h1 with h1
      injection h1 with _ h6 _
      exact h3 h6.symm⟩
/-- A block of other kinds with what it holds. -/
def Box (w : World) (p : Nat) (v : Value) (t : TypeId) : Prop := w.heap[p]? = some (.cells #[v] t (0, 0))
theorem Box.cell {w : World} {p : Nat} {v : Value} {t : TypeId} (h : Box w p v t) : w.cell? ⟨p, 0, none⟩ = some v := by
  rw [cell_of_row w p 0 _ _ _ h]; rfl
theorem Box.kept {B : Nat} {w w' : World} {p : Nat} {v : Value} {t : TypeId} (h : Box w p v t) (h1 : t ≠ 23) (h2 : t ≠ 29) (k : KeptT B w w') : Box w' p v t :=
  (k.block p (lt_of_block h) (.inr ⟨_, _, _, h, h1, h2⟩)).trans h
theorem Box.below {w w' : World} {p : Nat} {v : Value} {t : TypeId} (h : Box w p v t) (k : Below w.heap.size w w') : Box w' p v t := (k.block p (lt_of_block h)).trans h
theorem Box.new (w : World) (v : Value) (t : TypeId) : Box (w.alloc (.cells #[v] t)) w.heap.size v t := heap_alloc_new w _
/-- The block of a slice. -/
def blkV : Value → Nat
  | .slice (some a) _ _ => a.block
  | _ => 0
/-- A row in a block of its own, from B on. -/
def OwnRow (w : World) (B : Nat) (v : Value) (l : List Int) : Prop := ∃ b, B ≤ b ∧ v = .slice (some ⟨b, 0, none⟩) l.length l.length ∧ Own w b l ∧ l.length ≤ 1000000
theorem OwnRow.blk {w : World} {B : Nat} {v : Value} {l : List Int} (h : OwnRow w B v l) : B ≤ blkV v ∧ blkV v < w.heap.size := by
  obtain ⟨b, h1, rfl, h2, _⟩ := h
  exact ⟨h1, h2.lt⟩
theorem OwnRow.same {w w' : World} {B : Nat} {v : Value} {l : List Int} (h : OwnRow w B v l) (e : ∀ (b : Nat) (cs : Array Value) (fr : Nat × Nat), w.heap[b]? = some (Obj.cells cs 3 fr) → w'.heap[b]? = w.heap[b]?) : OwnRow w' B v l := by
  obtain ⟨b, h1, h3, h2, h4⟩ := h
  exact ⟨b, h1, h3, (e b _ _ h2).trans h2, h4⟩
/-- The rows lie in blocks of their own, from B on. -/
def NewR (w : World) (B : Nat) (vs : List Value) (T : List (List Int)) : Prop := vs.length = T.length ∧ (vs.map blkV).Nodup ∧ ∀ j, j < T.length → OwnRow w B (vs.getD j (.int .i64 0)) (T.getD j [])
theorem NewR.nil (w : World) (B : Nat) : NewR w B [] [] := ⟨rfl, List.nodup_nil, fun j hj => by cases hj⟩
theorem NewR.same {w w' : World} {B : Nat} {vs : List Value} {T : List (List Int)} (h : NewR w B vs T) (e : ∀ (b : Nat) (cs : Array Value) (fr : Nat × Nat), w.heap[b]? = some (Obj.cells cs 3 fr) → w'.heap[b]? = w.heap[b]?) : NewR w' B vs T :=
  ⟨h.1, h.2.1, fun j hj => (h.2.2 j hj).same e⟩
theorem NewR.kept {w w' : World} {B : Nat} {vs : List Value} {T : List (List Int)} (h : NewR w B vs T) (k : KeptT B w w') : NewR w' B vs T :=
  h.same fun b cs fr e => k.block b (lt_of_block e) (.inr ⟨_, _, _, e, by decide, by decide⟩)
theorem NewR.below {w w' : World} {B : Nat} {vs : List Value} {T : List (List Int)} (h : NewR w B vs T) (k : Below w.heap.size w w') : NewR w' B vs T := h.kept (KeptT.of k)
theorem NewR.push {w : World} {B s : Nat} {vs : List Value} {T : List (List Int)} {v : Value} {l : List Int} (h : NewR w B vs T) (hv : OwnRow w B v l) (hs : ∀ b ∈ vs.map blkV, b < s) (hb : s ≤ blkV v) : NewR w B (vs ++ [v]) (T ++ [l]) := by
  refine ⟨by simp [h.1], ?_, fun j hj => ?_⟩
  · rw [List.map_append, List.nodup_append]
    refine ⟨h.2.1, by simp, fun a ha b hb2 e => ?_⟩
    rw [List.map_singleton, List.mem_singleton] at hb2
    have := hs a ha
    omega
  · rcases Nat.lt_or_ge j T.length with h1 | h1
    · have e1 : (vs ++ [v]).getD j (.int .i64 0) = vs.getD j (.int .i64 0) := by simp [List.getD_eq_getElem?_getD, List.getElem?_append_left (show j < vs.length by rw [h.1]; exact h1)]
      have e2 : (T ++ [l]).getD j [] = T.getD j [] := by simp [List.getD_eq_getElem?_getD, List.getElem?_append_left h1]
      rw [e1, e2]
      exact h.2.2 j h1
    · have hj2 : j = T.length := by simp at hj; omega
      have e1 : (vs ++ [v]).getD j (.int .i64 0) = v := by rw [hj2, ← h.1]; simp [List.getD_eq_getElem?_getD]
      have e2 : (T ++ [l]).getD j [] = l := by rw [hj2]; simp [List.getD_eq_getElem?_getD]
      rw [e1, e2]
      exact hv
theorem NewR.lt {w : World} {B : Nat} {vs : List Value} {T : List (List Int)} (h : NewR w B vs T) : ∀ b ∈ vs.map blkV, b < w.heap.size := fun b hb => by
  rw [List.mem_map] at hb
  obtain ⟨v, hv, rfl⟩ := hb
  obtain ⟨j, hj, e⟩ := List.getElem_of_mem hv
  have h1 := (h.2.2 j (by rw [← h.1]; exact hj)).blk.2
  have e2 : vs.getD j (.int .i64 0) = v := by simp [List.getD_eq_getElem?_getD, hj, e]
  rw [e2] at h1
  exact h1
/-- What has been gathered. -/
def St (B : Nat) (T : List (List Int)) (w : World) : Prop := ∃ v vs, Box w B v 29 ∧ RowV w B v vs ∧ Rows3 w vs T ∧ NewR w B vs T
theorem St.below {B : Nat} {T : List (List Int)} {w w' : World} (h : St B T w) (hb : Below w.heap.size w w') : St B T w' := by
  obtain ⟨v, vs, h1, h2, h3, h4⟩ := h
  exact ⟨v, vs, h1.below hb, h2.below hb, h3.below hb, h4.below hb⟩
theorem St.lt {B : Nat} {T : List (List Int)} {w : World} (h : St B T w) : B < w.heap.size := by
  obtain ⟨v, vs, h1, _⟩ := h
  exact lt_of_block h1
theorem Rows3.kept {B : Nat} {w w' : World} {vs : List Value} {T : List (List Int)} (h : Rows3 w vs T) (k : KeptT B w w') : Rows3 w' vs T :=
  ⟨h.1, fun j hj => by
    obtain ⟨C, d, h1, h2, h3, h4, h5⟩ := h.2 j hj
    have hblk : ∀ a, C = some a → w'.heap[a.block]? = w.heap[a.block]? := fun a e => by
      obtain ⟨cs, fr, hc⟩ := h5 a e
      exact k.block _ (lt_of_block hc) (.inr ⟨_, _, _, hc, by decide, by decide⟩)
    refine ⟨C, d, h1, h2, h3, ⟨h4.1, h4.2.1, fun hp => ?_⟩, fun a e => ?_⟩
    · obtain ⟨b, off, e, hc⟩ := h4.2.2 hp
      refine ⟨b, off, e, fun j hj => ?_⟩
      rw [← hc j hj]
      exact World.cell?_of_block (a := ⟨b, off + j, none⟩) (hblk ⟨b, off, none⟩ e)
    · obtain ⟨cs, fr, hc⟩ := h5 a e
      exact ⟨cs, fr, (hblk a e).trans hc⟩⟩
/-- A slice of ints in a block of ints stays. -/
theorem Ints.kept {B : Nat} {w w' : World} {A : Option Addr} {n : Nat} {xs : List Int} (h : Ints w A n xs) (ho : Own3 w A) (k : KeptT B w w') : Ints w' A n xs :=
  ⟨h.1, h.2.1, fun hp => by
    obtain ⟨b, off, e, hc⟩ := h.2.2 hp
    obtain ⟨cs, fr, h5⟩ := ho _ e
    exact ⟨b, off, e, fun j hj => by
      rw [← hc j hj]
      exact World.cell?_of_block (a := ⟨b, off + j, none⟩) (k.block b (lt_of_block h5) (.inr ⟨_, _, _, h5, by decide, by decide⟩))⟩⟩
theorem Own3.kept {B : Nat} {w w' : World} {A : Option Addr} (ho : Own3 w A) (k : KeptT B w w') : Own3 w' A := fun a e => by
  obtain ⟨cs, fr, h5⟩ := ho a e
  exact ⟨cs, fr, (k.block _ (lt_of_block h5) (.inr ⟨_, _, _, h5, by decide, by decide⟩)).trans h5⟩
/-- One list more, stored. -/
theorem St.push {B : Nat} {w w' : World} {v v' : Value} {vs us : List Value} {G : List (List Int)} {v0 : Value} (hbx : Box w B v0 29) (hr : RowV w B v vs) (hg : w.grownBy w' v.ownBlock) (hr' : RowV w' B v' us) (hrs : Rows3 w us G) (hnr : NewR w B us G) : St B G (w'.setCell ⟨B, 0, none⟩ v') ∧ KeptT B w (w'.setCell ⟨B, 0, none⟩ v') ∧ Box w' B v0 29 := by
  have hB : w'.heap[B]? = w.heap[B]? := by
    refine hg.block B (lt_of_block hbx) fun e => ?_
    rcases hr.2 with ⟨e3, _⟩ | ⟨g, cap, cur, e3, hb, hh, _⟩
    · rw [e3] at e; simp [Value.ownBlock] at e
    · rw [e3] at e
      simp [Value.ownBlock] at e
      subst e
      unfold Box at hbx
      rw [hh] at hbx
      injection hbx with h1
      injection h1 with _ h6 _
      exact absurd h6 (by decide)
  have hbx' : Box w' B v0 29 := hB.trans hbx
  have k1 := KeptT.grown hr hg
  have k2 := KeptT.set (B := B) hbx' v'
  have hne : v'.ownBlock ≠ some B := fun e => by
    rcases hr'.2 with ⟨e3, _⟩ | ⟨g, cap, cur, e3, hb, hh, _⟩
    · rw [e3] at e; simp [Value.ownBlock] at e
    · rw [e3] at e
      simp [Value.ownBlock] at e
      subst e
      unfold Box at hbx'
      rw [hh] at hbx'
      injection hbx' with h1
      injection h1 with _ h6 _
      exact absurd h6 (by decide)
  refine ⟨⟨v', us, ?_, ?_, (hrs.kept k1).kept k2, (hnr.kept k1).kept k2⟩, k1.trans k2, hbx'⟩
  · unfold Box at hbx' ⊢
    simp [World.setCell, Array.getElem?_modify, hbx']
  · refine World.ownsRow.kept (row := some B) hr' ⟨rfl, rfl, rfl, by simp [World.setCell], fun i hi hp => Below.heap_setCell w' ⟨B, 0, none⟩ v' i fun e => hp (by rw [e])⟩ ?_
    cases hv : v'.ownBlock with
    | none => exact .inl rfl
    | some b => exact .inr (by rw [← hv]; exact hne)
end Go.Proofs.YtmepndnckcpgjaaGreat

namespace Go.Proofs.YtmepndnckcpgjaaGreat
open Go.RowKit
/-- What Corners knows of its costs. -/
structure CosI (w0 : World) (pC p n len c : Nat) (A : Option Addr) (xs : List Int) : Prop where
  box : w0.cell? ⟨pC, 0, none⟩ = some (.pointer (some ⟨p, 0, none⟩))
  cost : Costs w0 p n A len c
  ints : Ints w0 A len xs
  n6 : n ≤ 6
  len : len = 2 ^ n
  bnd : Bnd xs
set_option maxRecDepth 100000 in
set_option maxHeartbeats 8000000 in
/-- share.Corners$1 -/
theorem f75s_any (w0 : World) (B pC p n len c : Nat) (A : Option Addr) (xs : List Int) (H : CosI w0 pC p n len c A xs) (hB : B = w0.heap.size) (T : List (List Int)) (Ao : Option Addr) (m d : Nat) (os : List Int) (w : World) (hb0 : Below B w0 w) (hT : T.length ≤ 999999) (hst : St B T w) (ho : Ints w Ao m os)
    (hr : ∀ j, j < m → 0 ≤ os.getD j 0 ∧ os.getD j 0 < n) :
    Calls Tryz.prog 22 #[.slice Ao m d, .pointer (some ⟨B, 0, none⟩), .pointer (some ⟨pC, 0, none⟩)] w fun e w' => e = .returned (.tuple #[]) ∧ St B (T ++ [greedyL n xs (os.map Int.toNat)]) w' ∧ KeptT B w w' := by
  obtain ⟨v, vs, hbx, hrv, hrs, hnr⟩ := hst
  have hBl := lt_of_block hbx
  subst hB
  have HPL : Hid (pC < w0.heap.size) := Lib.hid (lt_of_cell H.box)
  have hvl : Hid (vs.length ≤ 1000000) := Lib.hid (by rw [hrs.1]; omega)
  have hn6 := H.n6
  have HGL : Hid ((greedyL n xs (os.map Int.toNat)).length = n) := Lib.hid (greedyL_len _ _ _)
  have HC : Hid (∀ W, Below w.heap.size w W → W.cell? ⟨pC, 0, none⟩ = some (.pointer (some ⟨p, 0, none⟩))) := Lib.hid fun W hW => by
    have h1 := H.box
    have h2 := (hb0.cell (lt_of_cell h1)).trans h1
    exact (hW.cell (lt_of_cell h2)).trans h2
  have K49 : Hid (∀ W, Below w.heap.size w W → Calls Tryz.prog 23 #[.pointer (some ⟨p, 0, none⟩), .slice Ao m d] W fun e w' =>
      e = .returned (.slice (some ⟨W.heap.size, 0, none⟩) n n) ∧ Own w' W.heap.size (greedyL n xs (os.map Int.toNat)) ∧ Below W.heap.size W w') := Lib.hid fun W hW =>
    f49_any p A Ao n len c m d xs os W ((H.cost.below hb0).below hW) ((H.ints.below hb0).below hW) (ho.below hW) H.n6 H.len (fun j => by have := H.bnd j; omega) hr
  have HBX := Lib.hid hbx
  have HRV := Lib.hid hrv
  have HRS := Lib.hid hrs
  have HNR := Lib.hid hnr
  have hcv := hbx.cell
  have hfz : Hid (∀ W : World, Box W w0.heap.size v 29 → W.frozen? ⟨w0.heap.size, 0, none⟩ = false ∧ W.cell? ⟨w0.heap.size, 0, none⟩ = some v) := Lib.hid fun W h => ⟨by unfold Box at h; simp [World.frozen?, h], h.cell⟩
  generalize greedyL n xs (os.map Int.toNat) = G at *
  have hPS : Hid (∀ (W : World) (u : Value), W.cell? ⟨pC, 0, none⟩ = some (.pointer (some ⟨p, 0, none⟩)) → (W.setCell ⟨w0.heap.size, 0, none⟩ u).cell? ⟨pC, 0, none⟩ = some (.pointer (some ⟨p, 0, none⟩))) := Lib.hid fun W u h => (World.cell?_of_block (Below.heap_setCell W ⟨w0.heap.size, 0, none⟩ u pC (by have := HPL.out; simp only; omega))).trans h
  have hPC : Hid (∀ W w' : World, Below w.heap.size w W → W.grownBy w' v.ownBlock → w'.cell? ⟨pC, 0, none⟩ = some (.pointer (some ⟨p, 0, none⟩))) := Lib.hid fun W w' hW hg => by
    have k1 := KeptT.grown (HRV.out.below hW) hg
    have h1 := HC.out W hW
    exact (World.cell?_of_block (k1.block pC (lt_of_cell h1) (.inl HPL.out))).trans h1
  clear hbx hrv hrs hnr H hr ho hb0
  go_enter Tryz.func22, Tryz.ntmps22
  go_wp2_with fail
  refine wp_region_held_drew (S := fun W => W.cell? ⟨pC, 0, none⟩ = some (.pointer (some ⟨p, 0, none⟩))) (by kernel_rfl) (HC.out _ (by first | exact Below.refl _ _ | exact (Below.refl _ _).drew)) (fun hS => ?_)
  refine wpAnyH_take (i := 1) (oi := { dst := some 5, op := Op.load 46 (Operand.tmp 2), type := 46, pos := "share.go:156", after := #[], guard := none }) (v := .pointer (some ⟨p, 0, none⟩)) rfl (by kernel_rfl) (by kernel_rfl) (by kernel_rfl) (fun _ _ _ h => h) (Or.inl ⟨by kernel_rfl, fun W hSW => by go_simp⟩) hS ?_
  try simp only [Act.put, List.setIfInBounds_toArray, List.set_cons_zero, List.set_cons_succ]
  refine wpAnyH_take (i := 2) (oi := { dst := some 6, op := Op.move (Operand.tmp 0), type := 23, pos := "share.go:156", after := #[], guard := none }) (v := .slice Ao m d) rfl (by kernel_rfl) (by kernel_rfl) (by kernel_rfl) (fun _ _ _ h => h) (Or.inl ⟨by kernel_rfl, fun W hSW => by kernel_rfl⟩) hS ?_
  try simp only [Act.put, List.setIfInBounds_toArray, List.set_cons_zero, List.set_cons_succ]
  refine wpAnyH_ready (rs := [0, 3]) (by kernel_rfl) (by simp) ?_
  refine AllReadyH.cons (o := { dst := some 4, op := Op.load 29 (Operand.tmp 1), type := 29, pos := "share.go:156", after := #[], guard := none }) rfl (fun K hK => ?_) (AllReadyH.cons (o := { dst := some 7, op := Op.call { callee := Callee.value (Operand.func 23), args := #[Operand.tmp 5, Operand.tmp 6], argTypes := #[46, 23] }, type := 23, pos := "share.go:156", after := #[{ on := 1, ground := Ground.data }, { on := 2, ground := Ground.data }], guard := none }) rfl (fun K hK => ?_) AllReadyH.nil)
  · skip
    go_simp
    refine hK.out _ _ (hS) (fun hS => ?_)
    clear hK K
    try simp only [Act.put, List.setIfInBounds_toArray, List.set_cons_zero, List.set_cons_succ]
    refine wpAnyH_ready (rs := [3]) (by kernel_rfl) (by simp) ?_
    refine AllReadyH.cons (o := { dst := some 7, op := Op.call { callee := Callee.value (Operand.func 23), args := #[Operand.tmp 5, Operand.tmp 6], argTypes := #[46, 23] }, type := 23, pos := "share.go:156", after := #[{ on := 1, ground := Ground.data }, { on := 2, ground := Ground.data }], guard := none }) rfl (fun K hK => ?_) AllReadyH.nil
    go_simp
    refine (K49.out _ (by first | exact Below.refl _ _ | exact (Below.refl _ _).drew)).mono ?_
    rintro e w4 ⟨rfl, hown, hb4⟩
    have hq1 : Below w.heap.size w w4 := (by first | exact hb4 | exact below_step (a := w) (b := w.drew) (below_drewN (Below.refl _ _) 1) hb4)
    have HW : Hid (Own w4 w.heap.size G) := Lib.hid (by first | exact hown)
    have HQ1 := Lib.hid hq1
    have HQ5 : Hid (Below w.heap.size w (w4.alloc (.cells #[.slice (some ⟨w.heap.size, 0, none⟩) n n] 23))) := Lib.hid (hq1.alloc hq1.size _)
    have hf1 := hfz.out _ (HBX.out.below hq1)
    have hf5 := hfz.out _ (HBX.out.below HQ5.out)
    obtain ⟨hf1a, hf1b⟩ := hf1
    obtain ⟨hf5a, hf5b⟩ := hf5
    clear hown hb4 hq1
    refine hK.out _ _ (HC.out _ HQ1.out) (fun hS => ?_)
    clear hK K
    try simp only [Act.put, List.setIfInBounds_toArray, List.set_cons_zero, List.set_cons_succ]
    refine wpAnyH_ready (rs := [4]) (by kernel_rfl) (by simp) ?_
    refine AllReadyH.cons (o := { dst := some 8, op := Op.buildSlice 29 1 #[(0, Operand.tmp 7)], type := 29, pos := "share.go:156", after := #[{ on := 3, ground := Ground.data }], guard := none }) rfl (fun K hK => ?_) AllReadyH.nil
    go_simp
    refine hK.out _ _ (HC.out _ (by first | exact HQ5.out | exact HQ5.out.drew)) (fun hS => ?_)
    clear hK K
    try simp only [Act.put, List.setIfInBounds_toArray, List.set_cons_zero, List.set_cons_succ]
    refine wpAnyH_ready (rs := [5]) (by kernel_rfl) (by simp) ?_
    refine AllReadyH.cons (o := { dst := some 9, op := Op.call { callee := Callee.builtin Builtin.append, args := #[Operand.tmp 4, Operand.tmp 8], argTypes := #[29, 29] }, type := 29, pos := "share.go:156", after := #[{ on := 0, ground := Ground.data }, { on := 4, ground := Ground.data }, { on := 3, ground := Ground.chain }], guard := none }) rfl (fun K hK => ?_) AllReadyH.nil
    refine step_pushV (by rfl) _ _ (by rfl) w0.heap.size v vs (by rfl) (HRV.out.below (by first | exact HQ5.out | exact HQ5.out.drew)) w4.heap.size 1 (some ⟨w.heap.size, 0, none⟩) n n (by rfl) ((cell_new w4 #[.slice (some ⟨w.heap.size, 0, none⟩) n n] 23 0).trans rfl) hvl.out (Nat.le_trans (Nat.le_of_lt hBl) (Below.size (by first | exact HQ5.out | exact HQ5.out.drew))) ?_
    intro v2 w' hr' hg' _
    have hrs5 := (HRS.out.below HQ5.out).append (Rows3.one (w := w4.alloc (.cells #[.slice (some ⟨w.heap.size, 0, none⟩) n n] 23)) ((HW.out.ints' HGL.out (by omega)).below (below_alloc w4 _)) (Nat.le_refl _) (fun h => by cases h) (HW.out.own3.below (below_alloc w4 _)))
    have hnr5 := (HNR.out.below HQ5.out).push (s := w.heap.size) (v := .slice (some ⟨w.heap.size, 0, none⟩) n n) (l := G) ⟨w.heap.size, Nat.le_of_lt hBl, by rw [HGL.out], HW.out.below' (below_alloc w4 _), by rw [HGL.out]; omega⟩ HNR.out.lt (Nat.le_refl _)
    obtain ⟨p1, p2, p3⟩ := St.push (HBX.out.below HQ5.out) (HRV.out.below HQ5.out) (by first | exact hg' | exact ⟨hg'.os, hg'.tape, hg'.output, hg'.size, hg'.block⟩) hr' hrs5 hnr5
    have HP1 := Lib.hid p1
    have HP2 : Hid (KeptT w0.heap.size w _) := Lib.hid ((KeptT.of HQ5.out).trans p2)
    obtain ⟨hz1, hz2⟩ := hfz.out _ p3
    have HC9 : Hid (w'.cell? ⟨pC, 0, none⟩ = some (.pointer (some ⟨p, 0, none⟩))) := Lib.hid (hPC.out _ _ (by first | exact HQ5.out | exact HQ5.out.drew) hg')
    obtain ⟨A2, c2, e2, _⟩ := hr'.form
    generalize (vs ++ [Value.slice (some ⟨w.heap.size, 0, none⟩) n n]).length = len2 at e2
    subst e2
    clear p1 p2 p3 hg' hr' hrs5 hnr5
    refine hK.out _ _ (HC9.out) (fun hS => ?_)
    clear hK K
    try simp only [Act.put, List.setIfInBounds_toArray, List.set_cons_zero, List.set_cons_succ]
    refine wpAnyH_ready (rs := [6]) (by kernel_rfl) (by simp) ?_
    refine AllReadyH.cons (o := { dst := none, op := Op.store 29 (Operand.tmp 1) (Operand.tmp 9), type := 0, pos := "share.go:156", after := #[{ on := 5, ground := Ground.data }, { on := 5, ground := Ground.chain }, { on := 0, ground := Ground.phase }, { on := 1, ground := Ground.phase }, { on := 2, ground := Ground.phase }, { on := 3, ground := Ground.phase }, { on := 4, ground := Ground.phase }, { on := 5, ground := Ground.phase }], guard := none }) rfl (fun K hK => ?_) AllReadyH.nil
    go_simp
    refine hK.out _ _ (hPS.out _ _ HC9.out) (fun hS => ?_)
    clear hK K
    try simp only [Act.put, List.setIfInBounds_toArray, List.set_cons_zero, List.set_cons_succ]
    refine wpAnyH_done (by kernel_rfl) ?_ _
    go_wp2
    first | go_end0 | ((try simp only [Exit.inBlock, Exit.then]); refine bodyPost_ret (results_none rfl _ _ _) rfl ?_)
    exact ⟨rfl, HP1.out, HP2.out⟩
  · skip
    go_simp
    refine (K49.out _ (by first | exact Below.refl _ _ | exact (Below.refl _ _).drew)).mono ?_
    rintro e w4 ⟨rfl, hown, hb4⟩
    have hq1 : Below w.heap.size w w4 := (by first | exact hb4 | exact below_step (a := w) (b := w.drew) (below_drewN (Below.refl _ _) 1) hb4)
    have HW : Hid (Own w4 w.heap.size G) := Lib.hid (by first | exact hown)
    have HQ1 := Lib.hid hq1
    have HQ5 : Hid (Below w.heap.size w (w4.alloc (.cells #[.slice (some ⟨w.heap.size, 0, none⟩) n n] 23))) := Lib.hid (hq1.alloc hq1.size _)
    have hf1 := hfz.out _ (HBX.out.below hq1)
    have hf5 := hfz.out _ (HBX.out.below HQ5.out)
    obtain ⟨hf1a, hf1b⟩ := hf1
    obtain ⟨hf5a, hf5b⟩ := hf5
    clear hown hb4 hq1
    refine hK.out _ _ (HC.out _ HQ1.out) (fun hS => ?_)
    clear hK K
    try simp only [Act.put, List.setIfInBounds_toArray, List.set_cons_zero, List.set_cons_succ]
    refine wpAnyH_ready (rs := [0, 4]) (by kernel_rfl) (by simp) ?_
    refine AllReadyH.cons (o := { dst := some 4, op := Op.load 29 (Operand.tmp 1), type := 29, pos := "share.go:156", after := #[], guard := none }) rfl (fun K hK => ?_) (AllReadyH.cons (o := { dst := some 8, op := Op.buildSlice 29 1 #[(0, Operand.tmp 7)], type := 29, pos := "share.go:156", after := #[{ on := 3, ground := Ground.data }], guard := none }) rfl (fun K hK => ?_) AllReadyH.nil)
    · skip
      go_simp
      refine hK.out _ _ (hS) (fun hS => ?_)
      clear hK K
      try simp only [Act.put, List.setIfInBounds_toArray, List.set_cons_zero, List.set_cons_succ]
      refine wpAnyH_ready (rs := [4]) (by kernel_rfl) (by simp) ?_
      refine AllReadyH.cons (o := { dst := some 8, op := Op.buildSlice 29 1 #[(0, Operand.tmp 7)], type := 29, pos := "share.go:156", after := #[{ on := 3, ground := Ground.data }], guard := none }) rfl (fun K hK => ?_) AllReadyH.nil
      go_simp
      refine hK.out _ _ (HC.out _ (by first | exact HQ5.out | exact HQ5.out.drew)) (fun hS => ?_)
      clear hK K
      try simp only [Act.put, List.setIfInBounds_toArray, List.set_cons_zero, List.set_cons_succ]
      refine wpAnyH_ready (rs := [5]) (by kernel_rfl) (by simp) ?_
      refine AllReadyH.cons (o := { dst := some 9, op := Op.call { callee := Callee.builtin Builtin.append, args := #[Operand.tmp 4, Operand.tmp 8], argTypes := #[29, 29] }, type := 29, pos := "share.go:156", after := #[{ on := 0, ground := Ground.data }, { on := 4, ground := Ground.data }, { on := 3, ground := Ground.chain }], guard := none }) rfl (fun K hK => ?_) AllReadyH.nil
      refine step_pushV (by rfl) _ _ (by rfl) w0.heap.size v vs (by rfl) (HRV.out.below (by first | exact HQ5.out | exact HQ5.out.drew)) w4.heap.size 1 (some ⟨w.heap.size, 0, none⟩) n n (by rfl) ((cell_new w4 #[.slice (some ⟨w.heap.size, 0, none⟩) n n] 23 0).trans rfl) hvl.out (Nat.le_trans (Nat.le_of_lt hBl) (Below.size (by first | exact HQ5.out | exact HQ5.out.drew))) ?_
      intro v2 w' hr' hg' _
      have hrs5 := (HRS.out.below HQ5.out).append (Rows3.one (w := w4.alloc (.cells #[.slice (some ⟨w.heap.size, 0, none⟩) n n] 23)) ((HW.out.ints' HGL.out (by omega)).below (below_alloc w4 _)) (Nat.le_refl _) (fun h => by cases h) (HW.out.own3.below (below_alloc w4 _)))
      have hnr5 := (HNR.out.below HQ5.out).push (s := w.heap.size) (v := .slice (some ⟨w.heap.size, 0, none⟩) n n) (l := G) ⟨w.heap.size, Nat.le_of_lt hBl, by rw [HGL.out], HW.out.below' (below_alloc w4 _), by rw [HGL.out]; omega⟩ HNR.out.lt (Nat.le_refl _)
      obtain ⟨p1, p2, p3⟩ := St.push (HBX.out.below HQ5.out) (HRV.out.below HQ5.out) (by first | exact hg' | exact ⟨hg'.os, hg'.tape, hg'.output, hg'.size, hg'.block⟩) hr' hrs5 hnr5
      have HP1 := Lib.hid p1
      have HP2 : Hid (KeptT w0.heap.size w _) := Lib.hid ((KeptT.of HQ5.out).trans p2)
      obtain ⟨hz1, hz2⟩ := hfz.out _ p3
      have HC9 : Hid (w'.cell? ⟨pC, 0, none⟩ = some (.pointer (some ⟨p, 0, none⟩))) := Lib.hid (hPC.out _ _ (by first | exact HQ5.out | exact HQ5.out.drew) hg')
      obtain ⟨A2, c2, e2, _⟩ := hr'.form
      generalize (vs ++ [Value.slice (some ⟨w.heap.size, 0, none⟩) n n]).length = len2 at e2
      subst e2
      clear p1 p2 p3 hg' hr' hrs5 hnr5
      refine hK.out _ _ (HC9.out) (fun hS => ?_)
      clear hK K
      try simp only [Act.put, List.setIfInBounds_toArray, List.set_cons_zero, List.set_cons_succ]
      refine wpAnyH_ready (rs := [6]) (by kernel_rfl) (by simp) ?_
      refine AllReadyH.cons (o := { dst := none, op := Op.store 29 (Operand.tmp 1) (Operand.tmp 9), type := 0, pos := "share.go:156", after := #[{ on := 5, ground := Ground.data }, { on := 5, ground := Ground.chain }, { on := 0, ground := Ground.phase }, { on := 1, ground := Ground.phase }, { on := 2, ground := Ground.phase }, { on := 3, ground := Ground.phase }, { on := 4, ground := Ground.phase }, { on := 5, ground := Ground.phase }], guard := none }) rfl (fun K hK => ?_) AllReadyH.nil
      go_simp
      refine hK.out _ _ (hPS.out _ _ HC9.out) (fun hS => ?_)
      clear hK K
      try simp only [Act.put, List.setIfInBounds_toArray, List.set_cons_zero, List.set_cons_succ]
      refine wpAnyH_done (by kernel_rfl) ?_ _
      go_wp2
      first | go_end0 | ((try simp only [Exit.inBlock, Exit.then]); refine bodyPost_ret (results_none rfl _ _ _) rfl ?_)
      exact ⟨rfl, HP1.out, HP2.out⟩
    · skip
      go_simp
      refine hK.out _ _ (HC.out _ (by first | exact HQ5.out | exact HQ5.out.drew)) (fun hS => ?_)
      clear hK K
      try simp only [Act.put, List.setIfInBounds_toArray, List.set_cons_zero, List.set_cons_succ]
      refine wpAnyH_ready (rs := [0]) (by kernel_rfl) (by simp) ?_
      refine AllReadyH.cons (o := { dst := some 4, op := Op.load 29 (Operand.tmp 1), type := 29, pos := "share.go:156", after := #[], guard := none }) rfl (fun K hK => ?_) AllReadyH.nil
      go_simp
      refine hK.out _ _ (hS) (fun hS => ?_)
      clear hK K
      try simp only [Act.put, List.setIfInBounds_toArray, List.set_cons_zero, List.set_cons_succ]
      refine wpAnyH_ready (rs := [5]) (by kernel_rfl) (by simp) ?_
      refine AllReadyH.cons (o := { dst := some 9, op := Op.call { callee := Callee.builtin Builtin.append, args := #[Operand.tmp 4, Operand.tmp 8], argTypes := #[29, 29] }, type := 29, pos := "share.go:156", after := #[{ on := 0, ground := Ground.data }, { on := 4, ground := Ground.data }, { on := 3, ground := Ground.chain }], guard := none }) rfl (fun K hK => ?_) AllReadyH.nil
      refine step_pushV (by rfl) _ _ (by rfl) w0.heap.size v vs (by rfl) (HRV.out.below (by first | exact HQ5.out | exact HQ5.out.drew)) w4.heap.size 1 (some ⟨w.heap.size, 0, none⟩) n n (by rfl) ((cell_new w4 #[.slice (some ⟨w.heap.size, 0, none⟩) n n] 23 0).trans rfl) hvl.out (Nat.le_trans (Nat.le_of_lt hBl) (Below.size (by first | exact HQ5.out | exact HQ5.out.drew))) ?_
      intro v2 w' hr' hg' _
      have hrs5 := (HRS.out.below HQ5.out).append (Rows3.one (w := w4.alloc (.cells #[.slice (some ⟨w.heap.size, 0, none⟩) n n] 23)) ((HW.out.ints' HGL.out (by omega)).below (below_alloc w4 _)) (Nat.le_refl _) (fun h => by cases h) (HW.out.own3.below (below_alloc w4 _)))
      have hnr5 := (HNR.out.below HQ5.out).push (s := w.heap.size) (v := .slice (some ⟨w.heap.size, 0, none⟩) n n) (l := G) ⟨w.heap.size, Nat.le_of_lt hBl, by rw [HGL.out], HW.out.below' (below_alloc w4 _), by rw [HGL.out]; omega⟩ HNR.out.lt (Nat.le_refl _)
      obtain ⟨p1, p2, p3⟩ := St.push (HBX.out.below HQ5.out) (HRV.out.below HQ5.out) (by first | exact hg' | exact ⟨hg'.os, hg'.tape, hg'.output, hg'.size, hg'.block⟩) hr' hrs5 hnr5
      have HP1 := Lib.hid p1
      have HP2 : Hid (KeptT w0.heap.size w _) := Lib.hid ((KeptT.of HQ5.out).trans p2)
      obtain ⟨hz1, hz2⟩ := hfz.out _ p3
      have HC9 : Hid (w'.cell? ⟨pC, 0, none⟩ = some (.pointer (some ⟨p, 0, none⟩))) := Lib.hid (hPC.out _ _ (by first | exact HQ5.out | exact HQ5.out.drew) hg')
      obtain ⟨A2, c2, e2, _⟩ := hr'.form
      generalize (vs ++ [Value.slice (some ⟨w.heap.size, 0, none⟩) n n]).length = len2 at e2
      subst e2
      clear p1 p2 p3 hg' hr' hrs5 hnr5
      refine hK.out _ _ (HC9.out) (fun hS => ?_)
      clear hK K
      try simp only [Act.put, List.setIfInBounds_toArray, List.set_cons_zero, List.set_cons_succ]
      refine wpAnyH_ready (rs := [6]) (by kernel_rfl) (by simp) ?_
      refine AllReadyH.cons (o := { dst := none, op := Op.store 29 (Operand.tmp 1) (Operand.tmp 9), type := 0, pos := "share.go:156", after := #[{ on := 5, ground := Ground.data }, { on := 5, ground := Ground.chain }, { on := 0, ground := Ground.phase }, { on := 1, ground := Ground.phase }, { on := 2, ground := Ground.phase }, { on := 3, ground := Ground.phase }, { on := 4, ground := Ground.phase }, { on := 5, ground := Ground.phase }], guard := none }) rfl (fun K hK => ?_) AllReadyH.nil
      go_simp
      refine hK.out _ _ (hPS.out _ _ HC9.out) (fun hS => ?_)
      clear hK K
      try simp only [Act.put, List.setIfInBounds_toArray, List.set_cons_zero, List.set_cons_succ]
      refine wpAnyH_done (by kernel_rfl) ?_ _
      go_wp2
      first | go_end0 | ((try simp only [Exit.inBlock, Exit.then]); refine bodyPost_ret (results_none rfl _ _ _) rfl ?_)
      exact ⟨rfl, HP1.out, HP2.out⟩
end Go.Proofs.YtmepndnckcpgjaaGreat

namespace Go.Proofs.YtmepndnckcpgjaaGreat
open Go.RowKit
def seenM (l : List Nat) : Nat := l.foldl (fun s i => s ||| 2 ^ i) 0
theorem seenM_snoc (l : List Nat) (x : Nat) : seenM (l ++ [x]) = seenM l ||| 2 ^ x := by
  unfold seenM; rw [List.foldl_append]; rfl
theorem seenM_bit (l : List Nat) (x : Nat) : (seenM l).testBit x = decide (x ∈ l) := by
  unfold seenM
  suffices ∀ s, (l.foldl (fun s i => s ||| 2 ^ i) s).testBit x = (s.testBit x || decide (x ∈ l)) by simpa using this 0
  induction l with
  | nil => simp
  | cons a l ih =>
    intro s
    rw [List.foldl_cons, ih, Nat.testBit_or, Nat.testBit_two_pow]
    by_cases h : a = x
    · subst h; simp
    · have h2 : ¬ x = a := fun e => h e.symm
      simp [h, h2]
theorem seenM_lt (l : List Nat) (n : Nat) (h : ∀ x ∈ l, x < n) : seenM l < 2 ^ n := by
  unfold seenM
  suffices ∀ s, s < 2 ^ n → l.foldl (fun s i => s ||| 2 ^ i) s < 2 ^ n from this 0 (Nat.pow_pos (by omega))
  induction l with
  | nil => exact fun s h => h
  | cons a l ih =>
    intro s hs
    rw [List.foldl_cons]
    exact ih (fun x hx => h x (by simp [hx])) _ (Nat.or_lt_two_pow hs (Nat.pow_lt_pow_right (by omega) (h a (by simp))))
/-- append to a slice of ints that has no room, inside a region that draws. -/
theorem step_pushFull {w : World} {ops : Array Oper} {o : Oper} {a : Act} {K : Act → World → Prop} {Q : Exit → Act → World → Prop} {E : Prop} (hgd : o.guard = none) (s x : Operand)
    (ho : o.op = .call { callee := .builtin .append, args := #[s, x], argTypes := #[23, 23] })
    (A : Option Addr) (n : Nat) (xs : List Int) (hs : a.eval s = .slice A n n) (hn : A = none → n = 0) (hi : Ints w A n xs) (g c : Nat) (y : Int) (hx : a.eval x = .slice (some ⟨g, 0, none⟩) 1 c)
    (hc : w.cell? ⟨g, 0, none⟩ = some (.int .i64 y)) (hl : n ≤ 1000000)
    (h : ∀ v' w', Row w' w.heap.size v' (xs ++ [y]) → w.grownBy w' none → K (a.put o.dst v') w') : if Region.wanted o (yielded ops a.tmps) = true then Oper.wp Tryz.prog o a w K Q else E := by
  have hw : Region.wanted o (yielded ops a.tmps) = true := by simp [Region.wanted, hgd]
  rw [if_pos hw]
  obtain ⟨i0, hi0, hz0, hz1, hz2⟩ := info_parts (show (Tryz.prog.info? 3).map (fun i => (i.zero, i.size, i.bytes)) = some (some (.int .i64 0), 1, 8) from by kernel_rfl)
  have hnews : ∀ (j : Nat) (u : Value), ([Value.int .i64 y] : List Value)[j]? = some u → w.cell? ((⟨g, 0, none⟩ : Addr).add j) = some u := by
    intro j u hj
    match j, hj with
    | 0, hj => simp at hj; subst hj; simpa [Addr.add] using hc
  have e : (xs ++ [y]).length = n + 1 := by rw [List.length_append, hi.len]; rfl
  cases A with
  | some b =>
    obtain ⟨v', w', hrun, r1, r2⟩ := run_append_arg_grows (P := Tryz.prog) w 23 o.type 3 i0 (.int .i64 0) 1 8 Tryz.underlying23 hi0 hz0 hz1 hz2 rfl (by decide) b n n (xs.map (Value.int .i64)) (by rw [List.length_map, hi.len, Nat.mul_one]) (by
      intro j u hu
      have hj : j < n := by
        rcases Nat.lt_or_ge j n with h | h
        · exact h
        · rw [List.getElem?_eq_none (by rw [List.length_map, hi.len]; exact h)] at hu; cases hu
      obtain ⟨b', off, e, hc⟩ := hi.ad (by omega)
      cases e
      have hjl : j < xs.length := by rw [hi.len]; exact hj
      rw [Go.WideShapes.add_plain, hc j hj, ← hu]
      simp [hjl]) ⟨g, 0, none⟩ 1 c [.int .i64 y] rfl hnews (by omega) (by unfold maxLen; omega) (by omega)
    unfold Oper.wp
    simp [execOp, ho, resolve, invoke, builtin, hs, hx, hrun, Result.andThen]
    exact h v' w' (by unfold Row; rw [e]; simpa using r1) r2
  | none =>
    obtain rfl := hn rfl
    have hl0 : xs = [] := List.eq_nil_of_length_eq_zero hi.len
    subst hl0
    obtain ⟨v', w', hrun, r1, r2, _⟩ := run_append_own (P := Tryz.prog) w w.heap.size 23 o.type 3 i0 (.int .i64 0) 1 8 Tryz.underlying23 hi0 hz0 hz1 hz2 rfl (by decide) (.slice none 0 0) 0 [] (World.ownsRow_nil w _ 3 1) ⟨g, 0, none⟩ 1 c [.int .i64 y] rfl hnews (by intro u hu; simp at hu; subst hu; rfl) (by unfold maxLen; omega) (by omega) (Nat.le_refl _)
    unfold Oper.wp
    simp [execOp, ho, resolve, invoke, builtin, hs, hx, hrun, Result.andThen]
    exact h v' w' (by unfold Row; rw [e]; simpa using r1) (by simpa [Value.ownBlock] using r2)
theorem enter75 (args : Array Value) (w : World) : (callFunc 22 args).run Tryz.prog w = .ok (.enter 22 args) w := by simp [go_sem]
theorem enter91 (args : Array Value) (w : World) : (callFunc 45 args).run Tryz.prog w = .ok (.enter 45 args) w := by simp [go_sem]
section
variable (w0 : World) (B pC p n len c : Nat) (A : Option Addr) (xs : List Int) (pn pv po : Nat)
/-- What on is told. -/
structure OnX (w : World) : Prop where
  bn : Box w pn (.pointer (some ⟨p, 0, none⟩)) 46
  bv : Box w pv (.func (.func 22) #[] #[.pointer (some ⟨B, 0, none⟩), .pointer (some ⟨pC, 0, none⟩)]) 53
  bo : Box w po (.func (.func 45) #[] #[.pointer (some ⟨pn, 0, none⟩), .pointer (some ⟨pv, 0, none⟩), .pointer (some ⟨po, 0, none⟩)]) 78
  below : Below B w0 w
theorem OnX.kept {w w' : World} (h : OnX w0 B pC p pn pv po w) (k : KeptT B w w') (hB : B ≤ w.heap.size) : OnX w0 B pC p pn pv po w' :=
  ⟨h.bn.kept (by decide) (by decide) k, h.bv.kept (by decide) (by decide) k, h.bo.kept (by decide) (by decide) k, k.below h.below hB⟩
def OnC (k : Nat) (l : List Nat) : Prop := ∀ (T : List (List Int)) (Ao : Option Addr) (d : Nat) (w : World), OnX w0 B pC p pn pv po w → St B T w → Ints w Ao l.length (zs l) → Own3 w Ao → l.length ≤ d → (Ao = none → l.length = 0 ∧ d = 0) → (∀ x ∈ l, x < n) → T.length + (ordF n k l).length ≤ 999999 →
  Calls Tryz.prog 45 #[.slice Ao l.length d, .int .i64 (seenM l : Int), .pointer (some ⟨pn, 0, none⟩), .pointer (some ⟨pv, 0, none⟩), .pointer (some ⟨po, 0, none⟩)] w fun e w' => e = .returned (.tuple #[]) ∧ St B (T ++ (ordF n k l).map (greedyL n xs)) w' ∧ KeptT B w w'
set_option maxRecDepth 100000 in
set_option maxHeartbeats 4000000 in
theorem f91_end (H : CosI w0 pC p n len c A xs) (hB : B = w0.heap.size) (l : List Nat) (hl : l.length = n) : OnC w0 B pC p n xs pn pv po 0 l := by
  intro T Ao d w hx hst hi ho hd hnil hln hT
  have hF : Hid (ordF n 0 l = [l]) := rfl
  rw [hF.out, List.length_singleton] at hT
  have K := Lib.hid (f75s_any w0 B pC p n len c A xs H hB T Ao l.length d (zs l) w hx.below (by omega) hst hi (fun j hj => by
    rw [zs_get]
    have := hln _ (List.getElem_mem hj)
    rw [List.getD_eq_getElem?_getD, List.getElem?_eq_getElem hj]
    simp only [Option.getD_some]
    omega))
  rw [zs_back] at K
  have c1 := hx.bn.cell
  have c2 := hx.bv.cell
  have hq : ((l.length : Int) == (n : Int)) = true := by simp; omega
  have c3 := (H.cost.1)
  have hb := hx.below
  have c4 := (hb.cell (by rw [hB]; exact lt_of_cell c3)).trans c3
  have hen := enter75
  generalize seenM l = C1 at *
  have HFM : Hid ((ordF n 0 l).map (greedyL n xs) = [greedyL n xs l]) := Lib.hid (by rw [hF.out]; rfl)
  have hd2 : (l.length : Int) ≤ (d : Int) := by omega
  obtain ⟨r, hr⟩ : ∃ z, z = l.length := ⟨_, rfl⟩
  rw [← hr] at hq K hd2 hl ⊢
  have hsm : r ≤ 6 := by have := H.n6; omega
  obtain rfl : r = n := hl
  clear hB hx hst hi ho hd hnil hln hT H hb c3 hF hr
  go_enter Tryz.func45, Tryz.ntmps45
  go_wp2_with fail
  refine K.out.mono ?_
  rintro e w1 ⟨rfl, h1, h2⟩
  have H1 := Lib.hid h1
  have H2 := Lib.hid h2
  clear h1 h2
  go_wp2
  refine bodyPost_ret (results_none rfl _ _ _) rfl ?_
  exact ⟨rfl, by rw [HFM.out]; exact H1.out, H2.out⟩
set_option maxRecDepth 100000 in
set_option maxHeartbeats 8000000 in
theorem f91_step (H : CosI w0 pC p n len c A xs) (hB : B = w0.heap.size) (k : Nat) (l : List Nat) (hl : l.length + (k + 1) = n) (ih : ∀ x, x < n → OnC w0 B pC p n xs pn pv po k (l ++ [x])) : OnC w0 B pC p n xs pn pv po (k + 1) l := by
  intro T Ao d w hx hst hi ho hd hnil hln hT
  have hn := H.n6
  have HX := Lib.hid hx
  have HST := Lib.hid hst
  have HI := Lib.hid hi
  have HO := Lib.hid ho
  have HNIL := Lib.hid hnil
  have HIH := Lib.hid ih
  have HLN := Lib.hid hln
  have HTC : Hid (∀ x, ordTo n k l (x + 1) = ordTo n k l x ++ ordC n k l x) := Lib.hid (ordTo_succ n k l)
  have HTD : Hid (∀ x, ordC n k l x = if x ∈ l then [] else ordF n k (l ++ [x])) := Lib.hid fun x => rfl
  have HF : Hid (ordF n (k + 1) l = ordTo n k l n) := rfl
  have HZ : Hid (ordTo n k l 0 = []) := rfl
  have HTM : Hid (∀ x, x ≤ n → T.length + (ordTo n k l x).length ≤ 999999) := Lib.hid fun x hx => by
    rw [HF.out] at hT
    have : (ordTo n k l x).length ≤ (ordTo n k l n).length := by
      suffices ∀ d, x ≤ d → (ordTo n k l x).length ≤ (ordTo n k l d).length from this n hx
      intro d hd
      induction d with
      | zero => obtain rfl : x = 0 := by omega
                exact Nat.le_refl _
      | succ d ih =>
        rcases Nat.lt_or_ge d x with h | h
        · obtain rfl : x = d + 1 := by omega
          exact Nat.le_refl _
        · rw [ordTo_succ, List.length_append]
          have := ih h
          omega
    omega
  have HXL : Hid (∀ x, (l ++ [x]).length = l.length + 1) := Lib.hid fun x => by simp
  have HSN : Hid (∀ x, seenM (l ++ [x]) = seenM l ||| 2 ^ x) := Lib.hid (seenM_snoc l)
  have HBIT : Hid (∀ x, (seenM l).testBit x = decide (x ∈ l)) := Lib.hid (seenM_bit l)
  have h64 : seenM l < 64 := Nat.lt_of_lt_of_le (seenM_lt l n hln) (pow6 n hn)
  have c1 := hx.bn.cell
  have c3 := H.cost.1
  have c4 := (hx.below.cell (by rw [hB]; exact lt_of_cell c3)).trans c3
  have hen := enter91
  have hBl : B ≤ w.heap.size := Nat.le_of_lt hst.lt
  obtain ⟨r, hr⟩ : ∃ z, z = l.length := ⟨_, rfl⟩
  have HRL : Hid (l.length = r) := Lib.hid hr.symm
  rw [← hr] at hl hd HI HNIL HXL ⊢
  generalize seenM l = C1 at *
  have hq : ((r : Int) == (n : Int)) = false := by simp; omega
  have hrd : (r : Int) ≤ (d : Int) := by omega
  have r0 : (0 : Int) ≤ (r : Int) := by omega
  have hr6 : r ≤ 1000000 := by omega
  clear hx hst hi ho hd hnil hln hT ih c3 hr H
  go_enter Tryz.func45, Tryz.ntmps45
  go_wp2_with fail
  go_loopw [22] (fun xi wr => ∃ x : Nat, x ≤ n ∧ xi = .int .i64 (x : Int) ∧ Hid (St B (T ++ (ordTo n k l x).map (greedyL n xs)) wr) ∧ Hid (KeptT B w wr)) (fun xi _ => n - (intOf xi).toNat)
  case atStart => exact ⟨0, by omega, rfl, Lib.hid (by rw [HZ.out]; simpa using HST.out), Lib.hid (KeptT.refl _ _)⟩
  case round => as_aux_lemma =>
    obtain ⟨x, hx, rfl, HS, HK⟩ := hrel
    by_cases hxn : x < n
    · have x0 : (0 : Int) ≤ (x : Int) := by omega
      have xn : (x : Int) < (n : Int) := by omega
      obtain ⟨N, hN, hshl⟩ := shl_one x (by omega)
      have hN2 : N ≤ 64 := by rw [hN]; exact pow6 x (by omega)
      have e1 := bits_and_nat C1 N (by omega) (by omega)
      have e2 := bits_or_nat C1 N (by omega) (by omega)
      have hbt := bit_and _ h64 x (by omega)
      rw [← hN] at hbt
      have HSN1 := Lib.hid (HSN.out x)
      rw [← hN] at HSN1
      have HBX := Lib.hid (HBIT.out x)
      clear hN
      cases hb : C1.testBit x
      · have hz : C1 &&& N = 0 := by rw [hb] at hbt; simpa using hbt
        rw [hz] at e1
        have HM : Hid (¬ x ∈ l) := Lib.hid (by have := HBX.out; rw [hb] at this; simpa using this)
        have HE : Hid (ordTo n k l (x + 1) = ordTo n k l x ++ ordF n k (l ++ [x])) := Lib.hid (by rw [HTC.out, HTD.out, if_neg HM.out])
        clear hbt hb hz HBX
        have HXR : Hid (OnX w0 B pC p pn pv po wr) := Lib.hid (OnX.kept w0 B pC p pn pv po HX.out HK.out hBl)
        have cpo := HXR.out.bo.cell
        have S1 : Hid (∀ W, Below wr.heap.size wr W → W.cell? ⟨po, 0, none⟩ = some (.func (.func 45) #[] #[.pointer (some ⟨pn, 0, none⟩), .pointer (some ⟨pv, 0, none⟩), .pointer (some ⟨po, 0, none⟩)])) := Lib.hid fun W h => (HXR.out.bo.below h).cell
        have S3 : Hid (∀ W, KeptT B wr W → W.cell? ⟨po, 0, none⟩ = some (.func (.func 45) #[] #[.pointer (some ⟨pn, 0, none⟩), .pointer (some ⟨pv, 0, none⟩), .pointer (some ⟨po, 0, none⟩)])) := Lib.hid fun W h => (HXR.out.bo.kept (by decide) (by decide) h).cell
        have RN : Hid (Ao = none → r = 0) := Lib.hid fun h => (HNIL.out h).1
        have R1 : Hid (∀ W, Below wr.heap.size wr W → Ints W Ao r (zs l)) := Lib.hid fun W h => (HI.out.kept HO.out HK.out).below h
        have R3 : Hid (∀ (W w' : World) (A' : Option Addr) (c' : Nat), Below wr.heap.size wr W → Below W.heap.size W w' → Ints w' A' (r + 1) (zs (l ++ [x])) → Own3 w' A' → r + 1 ≤ c' → (A' = none → r + 1 = 0 ∧ c' = 0) →
            Calls Tryz.prog 45 #[.slice A' (r + 1) c', .int .i64 ((C1 ||| N : Nat) : Int), .pointer (some ⟨pn, 0, none⟩), .pointer (some ⟨pv, 0, none⟩), .pointer (some ⟨po, 0, none⟩)] w' fun e w'' => e = .returned (.tuple #[]) ∧ St B (T ++ (ordTo n k l (x + 1)).map (greedyL n xs)) w'' ∧ KeptT B wr w'') := Lib.hid fun W w' A' c' h1 h2 h3 h4 h5 h6 => by
          have h7 : Below wr.heap.size wr w' := below_step h1 h2
          have h := HIH.out x hxn (T ++ (ordTo n k l x).map (greedyL n xs)) A' c' w' (OnX.kept w0 B pC p pn pv po HXR.out (KeptT.of h7) (Nat.le_of_lt HS.out.lt)) (HS.out.below h7) (by rw [HXL.out]; exact h3) h4 (by rw [HXL.out]; exact h5) (fun e => by rw [HXL.out]; exact h6 e) (fun y hy => by
            rcases List.mem_append.1 hy with hy | hy
            · exact HLN.out y hy
            · rw [List.mem_singleton] at hy; omega) (by
            have := HTM.out (x + 1) (by omega)
            rw [HE.out, List.length_append] at this
            rw [List.length_append, List.length_map]
            omega)
          rw [HXL.out, HSN1.out] at h
          exact h.mono fun e w'' hh => ⟨hh.1, by rw [HE.out, List.map_append, ← List.append_assoc]; exact hh.2.1, (KeptT.of h7).trans hh.2.2⟩
        go_wp2_with fail
        refine wp_region_held_drew (S := fun W => W.cell? ⟨po, 0, none⟩ = some (.func (.func 45) #[] #[.pointer (some ⟨pn, 0, none⟩), .pointer (some ⟨pv, 0, none⟩), .pointer (some ⟨po, 0, none⟩)])) (by kernel_rfl) (S1.out _ (by first | exact Below.refl _ _ | exact (Below.refl _ _).drew)) (fun hS => ?_)
        refine wpAnyH_take (i := 0) (oi := { dst := some 30, op := Op.load 78 (Operand.tmp 4), type := 78, pos := "share.go:142", after := #[], guard := none }) (v := (.func (.func 45) #[] #[.pointer (some ⟨pn, 0, none⟩), .pointer (some ⟨pv, 0, none⟩), .pointer (some ⟨po, 0, none⟩)])) rfl (by kernel_rfl) (by kernel_rfl) (by kernel_rfl) (fun _ _ _ h => h) (Or.inl ⟨by kernel_rfl, fun W hSW => by go_simp⟩) hS ?_
        try simp only [Act.put, List.setIfInBounds_toArray, List.set_cons_zero, List.set_cons_succ]
        refine wpAnyH_take (i := 1) (oi := { dst := some 31, op := Op.move (Operand.tmp 0), type := 23, pos := "share.go:142", after := #[], guard := none }) (v := .slice Ao r d) rfl (by kernel_rfl) (by kernel_rfl) (by kernel_rfl) (fun _ _ _ h => h) (Or.inl ⟨by kernel_rfl, fun W hSW => by kernel_rfl⟩) hS ?_
        try simp only [Act.put, List.setIfInBounds_toArray, List.set_cons_zero, List.set_cons_succ]
        refine wpAnyH_take (i := 2) (oi := { dst := some 32, op := Op.move (Operand.tmp 0), type := 23, pos := "share.go:142", after := #[], guard := none }) (v := .slice Ao r d) rfl (by kernel_rfl) (by kernel_rfl) (by kernel_rfl) (fun _ _ _ h => h) (Or.inl ⟨by kernel_rfl, fun W hSW => by kernel_rfl⟩) hS ?_
        try simp only [Act.put, List.setIfInBounds_toArray, List.set_cons_zero, List.set_cons_succ]
        refine wpAnyH_take (i := 3) (oi := { dst := some 33, op := Op.call { callee := Callee.builtin Builtin.len, args := #[Operand.tmp 32], argTypes := #[23] }, type := 3, pos := "share.go:142", after := #[{ on := 2, ground := Ground.data }], guard := none }) (v := .int .i64 (r : Int)) rfl (by kernel_rfl) (by kernel_rfl) (by kernel_rfl) (fun _ _ _ h => h) (Or.inl ⟨by kernel_rfl, fun W hSW => by go_simp⟩) hS ?_
        try simp only [Act.put, List.setIfInBounds_toArray, List.set_cons_zero, List.set_cons_succ]
        refine wpAnyH_take (i := 4) (oi := { dst := some 34, op := Op.move (Operand.tmp 0), type := 23, pos := "share.go:142", after := #[], guard := none }) (v := .slice Ao r d) rfl (by kernel_rfl) (by kernel_rfl) (by kernel_rfl) (fun _ _ _ h => h) (Or.inl ⟨by kernel_rfl, fun W hSW => by kernel_rfl⟩) hS ?_
        try simp only [Act.put, List.setIfInBounds_toArray, List.set_cons_zero, List.set_cons_succ]
        refine wpAnyH_take (i := 5) (oi := { dst := some 35, op := Op.call { callee := Callee.builtin Builtin.len, args := #[Operand.tmp 34], argTypes := #[23] }, type := 3, pos := "share.go:142", after := #[{ on := 4, ground := Ground.data }], guard := none }) (v := .int .i64 (r : Int)) rfl (by kernel_rfl) (by kernel_rfl) (by kernel_rfl) (fun _ _ _ h => h) (Or.inl ⟨by kernel_rfl, fun W hSW => by go_simp⟩) hS ?_
        try simp only [Act.put, List.setIfInBounds_toArray, List.set_cons_zero, List.set_cons_succ]
        refine wpAnyH_take (i := 6) (oi := { dst := some 36, op := Op.slice 23 (Operand.tmp 31) none (some (Operand.tmp 33)) (some (Operand.tmp 35)), type := 23, pos := "share.go:142", after := #[{ on := 1, ground := Ground.data }, { on := 3, ground := Ground.data }, { on := 5, ground := Ground.data }], guard := none }) (v := .slice Ao r r) rfl (by kernel_rfl) (by kernel_rfl) (by kernel_rfl) (fun _ _ _ h => h) (Or.inl ⟨by kernel_rfl, fun W hSW => by go_simp⟩) hS ?_
        try simp only [Act.put, List.setIfInBounds_toArray, List.set_cons_zero, List.set_cons_succ]
        refine wpAnyH_take (i := 7) (oi := { dst := some 37, op := Op.move (Operand.tmp 7), type := 3, pos := "share.go:142", after := #[], guard := none }) (v := .int .i64 (x : Int)) rfl (by kernel_rfl) (by kernel_rfl) (by kernel_rfl) (fun _ _ _ h => h) (Or.inl ⟨by kernel_rfl, fun W hSW => by kernel_rfl⟩) hS ?_
        try simp only [Act.put, List.setIfInBounds_toArray, List.set_cons_zero, List.set_cons_succ]
        refine wpAnyH_take (i := 10) (oi := { dst := some 40, op := Op.move (Operand.tmp 1), type := 3, pos := "share.go:142", after := #[], guard := none }) (v := .int .i64 (C1 : Int)) rfl (by kernel_rfl) (by kernel_rfl) (by kernel_rfl) (fun _ _ _ h => h) (Or.inl ⟨by kernel_rfl, fun W hSW => by kernel_rfl⟩) hS ?_
        try simp only [Act.put, List.setIfInBounds_toArray, List.set_cons_zero, List.set_cons_succ]
        refine wpAnyH_take (i := 11) (oi := { dst := some 41, op := Op.move (Operand.tmp 7), type := 3, pos := "share.go:142", after := #[], guard := none }) (v := .int .i64 (x : Int)) rfl (by kernel_rfl) (by kernel_rfl) (by kernel_rfl) (fun _ _ _ h => h) (Or.inl ⟨by kernel_rfl, fun W hSW => by kernel_rfl⟩) hS ?_
        try simp only [Act.put, List.setIfInBounds_toArray, List.set_cons_zero, List.set_cons_succ]
        refine wpAnyH_take (i := 12) (oi := { dst := some 42, op := Op.binOp BinOp.shl 3 (Operand.const (Value.int IntKind.i64 1)) (Operand.tmp 41) 3, type := 3, pos := "share.go:142", after := #[{ on := 11, ground := Ground.data }], guard := none }) (v := .int .i64 (N : Int)) rfl (by kernel_rfl) (by kernel_rfl) (by kernel_rfl) (fun _ _ _ h => h) (Or.inl ⟨by kernel_rfl, fun W hSW => by go_simp⟩) hS ?_
        try simp only [Act.put, List.setIfInBounds_toArray, List.set_cons_zero, List.set_cons_succ]
        refine wpAnyH_take (i := 13) (oi := { dst := some 43, op := Op.binOp BinOp.or 3 (Operand.tmp 40) (Operand.tmp 42) 3, type := 3, pos := "share.go:142", after := #[{ on := 10, ground := Ground.data }, { on := 12, ground := Ground.data }], guard := none }) (v := .int .i64 ((C1 ||| N : Nat) : Int)) rfl (by kernel_rfl) (by kernel_rfl) (by kernel_rfl) (fun _ _ _ h => h) (Or.inl ⟨by kernel_rfl, fun W hSW => by go_simp⟩) hS ?_
        try simp only [Act.put, List.setIfInBounds_toArray, List.set_cons_zero, List.set_cons_succ]
        refine wpAnyH_ready (rs := [8]) (by kernel_rfl) (by simp) ?_
        refine AllReadyH.cons (o := { dst := some 38, op := Op.buildSlice 23 1 #[(0, Operand.tmp 37)], type := 23, pos := "share.go:142", after := #[{ on := 7, ground := Ground.data }], guard := none }) rfl (fun K hK => ?_) AllReadyH.nil
        go_simp
        refine hK.out _ _ (S1.out _ (by first | exact below_alloc wr _ | exact (below_alloc wr _).drew)) (fun hS => ?_)
        clear hK K
        try simp only [Act.put, List.setIfInBounds_toArray, List.set_cons_zero, List.set_cons_succ]
        refine wpAnyH_ready (rs := [9]) (by kernel_rfl) (by simp) ?_
        refine AllReadyH.cons (o := { dst := some 39, op := Op.call { callee := Callee.builtin Builtin.append, args := #[Operand.tmp 36, Operand.tmp 38], argTypes := #[23, 23] }, type := 23, pos := "share.go:142", after := #[{ on := 6, ground := Ground.data }, { on := 8, ground := Ground.data }], guard := none }) rfl (fun K hK => ?_) AllReadyH.nil
        refine step_pushFull (by rfl) _ _ (by rfl) Ao r (zs l) (by rfl) RN.out (R1.out _ (by first | exact below_alloc wr _ | exact (below_alloc wr _).drew)) wr.heap.size 1 (x : Int) (by rfl) ((cell_new wr #[.int .i64 (x : Int)] 3 0).trans rfl) hr6 ?_
        intro v2 w2 hr2 hg2
        have hbA : Below wr.heap.size wr (wr.alloc (.cells #[.int .i64 (x : Int)] 3)) := below_alloc wr _
        have hb2 : Below (wr.alloc (.cells #[.int .i64 (x : Int)] 3)).heap.size (wr.alloc (.cells #[.int .i64 (x : Int)] 3)) w2 := by first | exact grown_none hg2 | exact below_step (below_drewN (Below.refl _ _) 1) (grown_none hg2)
        obtain ⟨A2, c2, e2, q1, q2, q3, q4⟩ := Row.form3 hr2 (by rw [← zs_snoc, zs_len, HXL.out]; omega)
        rw [← zs_snoc, zs_len, HXL.out] at e2 q1 q2 q3
        subst e2
        have KC := Lib.hid (R3.out _ w2 A2 c2 hbA hb2 q3 q4 q1 q2)
        have HQ := Lib.hid (below_step hbA hb2)
        clear hr2 hg2 hbA hb2 q1 q2 q3 q4
        refine hK.out _ _ (S1.out _ HQ.out) (fun hS => ?_)
        clear hK K
        try simp only [Act.put, List.setIfInBounds_toArray, List.set_cons_zero, List.set_cons_succ]
        refine wpAnyH_ready (rs := [14]) (by kernel_rfl) (by simp) ?_
        refine AllReadyH.cons (o := { dst := some 44, op := Op.call { callee := Callee.value (Operand.tmp 30), args := #[Operand.tmp 39, Operand.tmp 43], argTypes := #[23, 3] }, type := 0, pos := "share.go:142", after := #[{ on := 0, ground := Ground.data }, { on := 9, ground := Ground.data }, { on := 13, ground := Ground.data }, { on := 9, ground := Ground.chain }], guard := none }) rfl (fun K hK => ?_) AllReadyH.nil
        go_simp
        refine KC.out.mono ?_
        rintro e w3 ⟨rfl, p1, p2⟩
        have P1 := Lib.hid p1
        have P2 := Lib.hid p2
        clear p1 p2
        refine hK.out _ _ (S3.out _ P2.out) (fun hS => ?_)
        clear hK K
        try simp only [Act.put, List.setIfInBounds_toArray, List.set_cons_zero, List.set_cons_succ]
        refine wpAnyH_done (by kernel_rfl) ?_ _
        go_wp2
        go_roundw
        case rel => exact ⟨x + 1, by omega, by go_num, P1, Lib.hid (HK.out.trans P2.out)⟩
        case measure => simp [intOf]; omega
      · have hz : ¬ C1 &&& N = 0 := by rw [hb] at hbt; simpa using hbt
        generalize C1 &&& N = V at *
        have hNZ : ((V : Int) == 0) = false := by simp; omega
        have HM : Hid (x ∈ l) := Lib.hid (by have := HBX.out; rw [hb] at this; simpa using this)
        have HE : Hid (ordTo n k l (x + 1) = ordTo n k l x) := Lib.hid (by rw [HTC.out, HTD.out, if_pos HM.out, List.append_nil])
        clear hbt hb hz HBX
        go_wp2
        go_roundw
        case rel => exact ⟨x + 1, by omega, by go_num, Lib.hid (by rw [HE.out]; exact HS.out), HK⟩
        case measure => simp [intOf]; omega
    · obtain rfl : x = n := by omega
      go_wp2
      go_end0
      exact ⟨rfl, by rw [HF.out]; exact HS.out, HK.out⟩
theorem f91_all (H : CosI w0 pC p n len c A xs) (hB : B = w0.heap.size) : ∀ (k : Nat) (l : List Nat), l.length + k = n → OnC w0 B pC p n xs pn pv po k l
  | 0, l, h => f91_end w0 B pC p n len c A xs pn pv po H hB l h
  | k + 1, l, h => f91_step w0 B pC p n len c A xs pn pv po H hB k l h fun x _ => f91_all H hB k (l ++ [x]) (by simp; omega)
end
end Go.Proofs.YtmepndnckcpgjaaGreat

namespace Go.Proofs.YtmepndnckcpgjaaGreat
open Go.RowKit
theorem three_boxes (w : World) (a b z u : Value) (ta tb tz : TypeId) :
    (((w.alloc (.cells #[a] ta)).alloc (.cells #[b] tb)).alloc (.cells #[z] tz)).cell? ⟨w.heap.size + 1 + 1, 0, none⟩ = some z ∧ (((w.alloc (.cells #[a] ta)).alloc (.cells #[b] tb)).alloc (.cells #[z] tz)).frozen? ⟨w.heap.size + 1 + 1, 0, none⟩ = false ∧
    ∃ W, (((w.alloc (.cells #[a] ta)).alloc (.cells #[b] tb)).alloc (.cells #[z] tz)).setCell ⟨w.heap.size + 1 + 1, 0, none⟩ u = W ∧ Box W w.heap.size a ta ∧ Box W (w.heap.size + 1) b tb ∧ Box W (w.heap.size + 1 + 1) u tz ∧ Below w.heap.size w W := by
  have s1 : (w.alloc (.cells #[a] ta)).heap.size = w.heap.size + 1 := by simp
  have a1 : (w.alloc (.cells #[a] ta)).heap[w.heap.size]? = some (.cells #[a] ta (0, 0)) := heap_alloc_new w _
  obtain ⟨w1, hw1⟩ : ∃ z, z = w.alloc (.cells #[a] ta) := ⟨_, rfl⟩
  have b1 : Below w.heap.size w w1 := by rw [hw1]; exact below_alloc w _
  rw [← hw1] at s1 a1 ⊢
  have s2 : (w1.alloc (.cells #[b] tb)).heap.size = w.heap.size + 1 + 1 := by simp [s1]
  have a2 : (w1.alloc (.cells #[b] tb)).heap[w.heap.size + 1]? = some (.cells #[b] tb (0, 0)) := by rw [← s1]; exact heap_alloc_new w1 _
  have a12 := (Below.heap_alloc w1 (.cells #[b] tb) w.heap.size (by omega)).trans a1
  obtain ⟨w2, hw2⟩ : ∃ z, z = w1.alloc (.cells #[b] tb) := ⟨_, rfl⟩
  have b2 : Below w.heap.size w w2 := by rw [hw2]; exact b1.alloc (by omega) _
  rw [← hw2] at s2 a2 a12 ⊢
  have s3 : (w2.alloc (.cells #[z] tz)).heap.size = w.heap.size + 1 + 1 + 1 := by simp [s2]
  have a3 : (w2.alloc (.cells #[z] tz)).heap[w.heap.size + 1 + 1]? = some (.cells #[z] tz (0, 0)) := by rw [← s2]; exact heap_alloc_new w2 _
  have a13 := (Below.heap_alloc w2 (.cells #[z] tz) w.heap.size (by omega)).trans a12
  have a23 := (Below.heap_alloc w2 (.cells #[z] tz) (w.heap.size + 1) (by omega)).trans a2
  obtain ⟨w3, hw3⟩ : ∃ y, y = w2.alloc (.cells #[z] tz) := ⟨_, rfl⟩
  have b3 : Below w.heap.size w w3 := by rw [hw3]; exact b2.alloc (by omega) _
  rw [← hw3] at s3 a3 a13 a23 ⊢
  refine ⟨by rw [cell_of_row _ _ 0 _ _ _ a3]; rfl, by simp [World.frozen?, a3], _, rfl, ?_, ?_, ?_, ?_⟩
  · exact (Below.heap_setCell w3 ⟨w.heap.size + 1 + 1, 0, none⟩ u w.heap.size (by simp only; omega)).trans a13
  · exact (Below.heap_setCell w3 ⟨w.heap.size + 1 + 1, 0, none⟩ u (w.heap.size + 1) (by simp only; omega)).trans a23
  · unfold Box
    simp [World.setCell, Array.getElem?_modify, a3]
  · exact b3.setCell (by simp only; omega) _
set_option maxRecDepth 100000 in
set_option maxHeartbeats 4000000 in
/-- (*costs).orders, with what Corners does at each -/
theorem f74_any (w0 : World) (B pC p n len c : Nat) (A : Option Addr) (xs : List Int) (H : CosI w0 pC p n len c A xs) (hB : B = w0.heap.size) (w : World) (hb : Below B w0 w) (hst : St B [] w) :
    Calls Tryz.prog 21 #[.pointer (some ⟨p, 0, none⟩), .func (.func 22) #[] #[.pointer (some ⟨B, 0, none⟩), .pointer (some ⟨pC, 0, none⟩)]] w fun e w' => e = .returned (.tuple #[]) ∧ St B (gsL n xs) w' ∧ KeptT B w w' := by
  have hen := enter91
  have hmf : ∀ (fn : Fn) (first cap : Array Value) (w : World), (Instr.makeFunc fn first cap).run Tryz.prog w = .ok (.func fn first cap) w := fun _ _ _ _ => rfl
  have hsf : ∀ (a : Addr) (fn : Fn) (first cap : Array Value) (m : Mode) (w : World), (store a (.func fn first cap) m).run Tryz.prog w = stored Tryz.prog w a (.func fn first cap) m := fun a fn first cap m w => run_store Tryz.prog w a _ m rfl
  obtain ⟨hz1, hz2, W, hW, hx1, hx2, hx3, hx4⟩ := three_boxes w (.pointer (some ⟨p, 0, none⟩)) (.func (.func 22) #[] #[.pointer (some ⟨B, 0, none⟩), .pointer (some ⟨pC, 0, none⟩)]) .nilFunc (.func (.func 45) #[] #[.pointer (some ⟨w.heap.size, 0, none⟩), .pointer (some ⟨w.heap.size + 1, 0, none⟩), .pointer (some ⟨w.heap.size + 1 + 1, 0, none⟩)]) 46 53 78
  have hBl : B ≤ w.heap.size := Nat.le_of_lt hst.lt
  have hlen := ord_many H.n6
  have K := Lib.hid (f91_all w0 B pC p n len c A xs w.heap.size (w.heap.size + 1) (w.heap.size + 1 + 1) H hB n [] (by simp) [] none 0 W ⟨hx1, hx2, hx3, hb.trans (hx4.mono hBl)⟩ (hst.below hx4) (Ints.nil W none) (Own3.nil W) (Nat.le_refl _) (fun _ => ⟨rfl, rfl⟩) (fun x hx => by cases hx) (by simp; omega))
  have HG : Hid (gsL n xs = [] ++ (ordF n n []).map (greedyL n xs)) := rfl
  rw [← HG.out] at K
  have K : Hid (Calls Tryz.prog 45 #[.slice none 0 0, .int .i64 0, .pointer (some ⟨w.heap.size, 0, none⟩), .pointer (some ⟨w.heap.size + 1, 0, none⟩), .pointer (some ⟨w.heap.size + 1 + 1, 0, none⟩)] W fun e w' => e = .returned (.tuple #[]) ∧ St B (gsL n xs) w' ∧ KeptT B W w') := K
  have HK : Hid (KeptT B w W) := Lib.hid (KeptT.of hx4)
  have hx3 := hx3.cell
  clear H hb hst hB hx1 hx2 hx4 hBl hlen
  go_enter Tryz.func21, Tryz.ntmps21
  go_wp2_with fail
  refine K.out.mono ?_
  rintro e w1 ⟨rfl, h1, h2⟩
  have H1 := Lib.hid h1
  have H2 := Lib.hid (HK.out.trans h2)
  clear h1 h2
  go_wp2
  go_end0
  exact ⟨rfl, H1.out, H2.out⟩
end Go.Proofs.YtmepndnckcpgjaaGreat

namespace Go.Proofs.YtmepndnckcpgjaaGreat
theorem compF_one (a : List Int) : compF [a] = [a] := by unfold compF; rfl
theorem compF_eq (a : List Int) (t : List (List Int)) : compF (a :: a :: t) = compF (a :: t) := by rw [compF, if_pos rfl]
theorem compF_ne {a b : List Int} (h : ¬ a = b) (t : List (List Int)) : compF (a :: b :: t) = a :: compF (b :: t) := by rw [compF, if_neg h]
theorem compF_snoc : ∀ (k : Nat) (l : List (List Int)), l.length ≤ k → ∀ a b, compF (l ++ [a, b]) = if a = b then compF (l ++ [a]) else compF (l ++ [a]) ++ [b]
  | _, [], _, a, b => by
    by_cases h : a = b
    · subst h
      rw [if_pos rfl]
      exact compF_eq a []
    · rw [if_neg h]
      show compF [a, b] = compF [a] ++ [b]
      rw [compF_ne h, compF_one, compF_one]; rfl
  | 0, _ :: _, h, _, _ => by simp at h
  | k + 1, [c], _, a, b => by
    show compF (c :: a :: [b]) = if a = b then compF (c :: a :: []) else compF (c :: a :: []) ++ [b]
    have ih := compF_snoc k [] (by simp) a b
    by_cases h : c = a
    · subst h
      rw [compF_eq, compF_eq]
      exact ih
    · rw [compF_ne h, compF_ne h]
      have ih : compF [a, b] = if a = b then compF [a] else compF [a] ++ [b] := ih
      rw [ih]
      by_cases h2 : a = b
      · rw [if_pos h2, if_pos h2]
      · rw [if_neg h2, if_neg h2]; rfl
  | k + 1, c :: d :: l, h, a, b => by
    simp only [List.length_cons] at h
    show compF (c :: d :: (l ++ [a, b])) = if a = b then compF (c :: d :: (l ++ [a])) else compF (c :: d :: (l ++ [a])) ++ [b]
    have ih : compF (d :: (l ++ [a, b])) = if a = b then compF (d :: (l ++ [a])) else compF (d :: (l ++ [a])) ++ [b] := compF_snoc k (d :: l) (by simp; omega) a b
    by_cases h1 : c = d
    · subst h1
      rw [compF_eq, compF_eq]
      exact ih
    · rw [compF_ne h1, compF_ne h1, ih]
      by_cases h2 : a = b
      · rw [if_pos h2, if_pos h2]
      · rw [if_neg h2, if_neg h2]; rfl
theorem take_two {L : List (List Int)} {q : Nat} (h : q + 1 < L.length) : L.take (q + 2) = L.take q ++ [L.getD q [], L.getD (q + 1) []] := by
  rw [List.take_succ_eq_append_getElem h, List.take_succ_eq_append_getElem (by omega), List.append_assoc]
  have e1 : L.getD q [] = L[q] := by simp [List.getD_eq_getElem?_getD, show q < L.length by omega]
  have e2 : L.getD (q + 1) [] = L[q + 1] := by simp [List.getD_eq_getElem?_getD, h]
  rw [e1, e2]; rfl
theorem take_one {L : List (List Int)} {q : Nat} (h : q < L.length) : L.take (q + 1) = L.take q ++ [L.getD q []] := by
  rw [List.take_succ_eq_append_getElem h]
  simp [List.getD_eq_getElem?_getD, h]
theorem compTo_same {L : List (List Int)} {q : Nat} (h : q + 1 < L.length) (e : L.getD (q + 1) [] = L.getD q []) : compF (L.take (q + 2)) = compF (L.take (q + 1)) := by
  rw [take_two h, compF_snoc _ _ (Nat.le_refl _), if_pos e.symm, take_one (by omega)]
theorem compTo_more {L : List (List Int)} {q : Nat} (h : q + 1 < L.length) (e : ¬ L.getD (q + 1) [] = L.getD q []) : compF (L.take (q + 2)) = compF (L.take (q + 1)) ++ [L.getD (q + 1) []] := by
  rw [take_two h, compF_snoc _ _ (Nat.le_refl _), if_neg (fun h => e h.symm), take_one (by omega)]
theorem compTo_first {L : List (List Int)} (h : 0 < L.length) : compF (L.take 1) = L.take 1 := by
  rw [take_one h]
  exact compF_one _
end Go.Proofs.YtmepndnckcpgjaaGreat

namespace Go.Proofs.YtmepndnckcpgjaaGreat
open Go.RowKit
theorem GrG.trans {g : Nat} {a b c : World} (h : a.grownBy b (some g)) (k : b.grownBy c (some g)) : a.grownBy c (some g) :=
  ⟨k.os.trans h.os, k.tape.trans h.tape, k.output.trans h.output, Nat.le_trans h.size k.size, fun i hi hn => (k.block i (Nat.lt_of_lt_of_le hi h.size) hn).trans (h.block i hi hn)⟩
theorem GrG.set (g i : Nat) (w : World) (v : Value) : w.grownBy (w.setCell ⟨g, i, none⟩ v) (some g) :=
  ⟨rfl, rfl, rfl, by simp [World.setCell], fun k hk hn => Below.heap_setCell w ⟨g, i, none⟩ v k fun e => hn (by rw [e])⟩
theorem GrG.sets (g : Nat) : ∀ (us : List Value) (o : Nat) (w : World), w.grownBy (w.setCells g o us) (some g)
  | [], _, w => World.grownBy.refl w _
  | v :: us, o, w => GrG.trans (GrG.set g o w v) (GrG.sets g us (o + 1) _)
theorem GrG.drewN (g : Nat) (w : World) (q : Nat) : w.grownBy (w.drewN q) (some g) := ⟨rfl, rfl, rfl, Nat.le_refl _, fun _ _ _ => rfl⟩
/-- A slice of ints, of one cell's value, that lies beside block g. -/
def LieW (w : World) (g : Nat) (v : Value) (l : List Int) : Prop := ∃ A c, v = .slice A l.length c ∧ l.length ≤ c ∧ (A = none → l.length = 0 ∧ c = 0) ∧ Ints w A l.length l ∧ ∀ a, A = some a → a.block ≠ g ∧ a.block < w.heap.size
theorem LieW.lies {w : World} {g : Nat} {v : Value} {l : List Int} (h : LieW w g v l) : LiesV w g v l := by
  obtain ⟨A, c, h1, _, _, h2, h3⟩ := h
  exact ⟨A, c, h1, h2, h3⟩
theorem LieW.same {w w' : World} {g : Nat} {v : Value} {l : List Int} (h : LieW w g v l) (k : w.grownBy w' (some g)) : LieW w' g v l := by
  obtain ⟨A, c, h1, p1, p2, hi, ha⟩ := h
  refine ⟨A, c, h1, p1, p2, ⟨hi.1, hi.2.1, fun hp => ?_⟩, fun a e2 => ⟨(ha a e2).1, Nat.lt_of_lt_of_le (ha a e2).2 k.size⟩⟩
  obtain ⟨b, off, e2, h2⟩ := hi.2.2 hp
  have h3 := ha _ e2
  exact ⟨b, off, e2, fun j hj => (k.cell_far ⟨b, off + j, none⟩ h3.2 (fun e => h3.1 (by injection e))).trans (h2 j hj)⟩
theorem cell_set_self {w : World} {g i : Nat} {u v : Value} (h : w.cell? ⟨g, i, none⟩ = some u) : (w.setCell ⟨g, i, none⟩ v).cell? ⟨g, i, none⟩ = some v := by
  have := World.cell?_setCells_in g [v] i w (fun j hj => by
    obtain rfl : j = 0 := by simpa using hj
    rw [Nat.add_zero, h]; rfl) 0 (by simp)
  simpa [World.setCells] using this
theorem cell_set_other {w : World} {g i j : Nat} {v : Value} (h : i ≠ j) : (w.setCell ⟨g, i, none⟩ v).cell? ⟨g, j, none⟩ = w.cell? ⟨g, j, none⟩ := by
  have := World.cell?_setCells_out g [v] i w ⟨g, j, none⟩ (fun _ _ => by simp; omega)
  simpa [World.setCells] using this
/-- The row while it is compacted: V is done, from lo on it is as it was. -/
structure CmI (R : Value → List Int → Prop) (w : World) (g m : Nat) (vs : List Value) (lo : Nat) (V : List Value) (K : List (List Int)) (wr : World) : Prop where
  grown : w.grownBy wr (some g)
  len : V.length = K.length
  done : ∀ i, i < V.length → wr.cell? ⟨g, i, none⟩ = some (V.getD i (.int .i64 0))
  rows : ∀ i, i < V.length → R (V.getD i (.int .i64 0)) (K.getD i [])
  sub : V.Sublist (vs.take (lo + 1))
  rest : ∀ i, lo ≤ i → i < m → wr.cell? ⟨g, i, none⟩ = some (vs.getD i (.int .i64 0))
  all : ∀ i, i < m → (wr.cell? ⟨g, i, none⟩).isSome = true
  froz : ∀ i, i < m → wr.frozen? ⟨g, i, none⟩ = false
section
variable {R : Value → List Int → Prop} {w wr : World} {g m lo : Nat} {vs V : List Value} {K : List (List Int)}
theorem CmI.skip (h : CmI R w g m vs lo V K wr) {lo' : Nat} (hl : lo ≤ lo') : CmI R w g m vs lo' V K wr :=
  ⟨h.grown, h.len, h.done, h.rows, h.sub.trans (by
    have e : vs.take (lo + 1) = (vs.take (lo' + 1)).take (lo + 1) := by rw [List.take_take, Nat.min_eq_left (by omega)]
    rw [e]
    exact List.take_sublist _ _), fun i h1 h2 => h.rest i (by omega) h2, h.all, h.froz⟩
theorem CmI.drewN (h : CmI R w g m vs lo V K wr) (q : Nat) : CmI R w g m vs lo V K (wr.drewN q) :=
  ⟨GrG.trans h.grown (GrG.drewN g wr q), h.len, h.done, h.rows, h.sub, h.rest, h.all, h.froz⟩
theorem getD_snoc_lt {α : Type} {l : List α} {x d : α} {i : Nat} (h : i < l.length) : (l ++ [x]).getD i d = l.getD i d := by
  simp [List.getD_eq_getElem?_getD, List.getElem?_append_left h]
theorem getD_snoc_eq {α : Type} (l : List α) (x d : α) : (l ++ [x]).getD l.length d = x := by simp [List.getD_eq_getElem?_getD]
theorem CmI.put (h : CmI R w g m vs lo V K wr) {v : Value} {l : List Int} (hv : R v l) (he : vs[lo + 1]? = some v) (hV : V.length < lo + 1) (hm : V.length < m) : CmI R w g m vs (lo + 1) (V ++ [v]) (K ++ [l]) (wr.setCell ⟨g, V.length, none⟩ v) := by
  obtain ⟨u, hu⟩ := Option.isSome_iff_exists.1 (h.all V.length hm)
  refine ⟨GrG.trans h.grown (GrG.set g _ wr v), by simp [h.len], fun i hi => ?_, fun i hi => ?_, ?_, fun i h1 h2 => ?_, fun i hi => ?_, fun i hi => ?_⟩
  · rcases Nat.lt_or_ge i V.length with h1 | h1
    · rw [cell_set_other (by omega), getD_snoc_lt h1]
      exact h.done i h1
    · have hi : i = V.length := by simp at hi; omega
      subst hi
      rw [getD_snoc_eq]
      exact cell_set_self hu
  · rcases Nat.lt_or_ge i V.length with h1 | h1
    · rw [getD_snoc_lt h1, getD_snoc_lt (by rw [← h.len]; exact h1)]
      exact h.rows i h1
    · have hi : i = V.length := by simp at hi; omega
      subst hi
      rw [getD_snoc_eq, h.len, getD_snoc_eq]
      exact hv
  · have hlt : lo + 1 < vs.length := by
      rcases Nat.lt_or_ge (lo + 1) vs.length with h1 | h1
      · exact h1
      · rw [List.getElem?_eq_none h1] at he; cases he
    have e : vs.take (lo + 1 + 1) = vs.take (lo + 1) ++ [v] := by
      rw [List.take_succ_eq_append_getElem hlt]
      rw [List.getElem?_eq_getElem hlt] at he
      rw [Option.some.inj he]
    rw [e]
    exact h.sub.append (List.Sublist.refl _)
  · rw [cell_set_other (by omega)]
    exact h.rest i (by omega) h2
  · by_cases e : V.length = i
    · subst e; rw [cell_set_self hu]; rfl
    · rw [cell_set_other e]; exact h.all i hi
  · rw [World.frozen?_setCell]; exact h.froz i hi
/-- Behind it the cells are cleared. -/
theorem CmI.clear (h : CmI R w g m vs lo V K wr) (us : List Value) {o : Nat} (ho : V.length ≤ o) : (∀ i, i < V.length → (wr.setCells g o us).cell? ⟨g, i, none⟩ = some (V.getD i (.int .i64 0))) ∧ w.grownBy (wr.setCells g o us) (some g) :=
  ⟨fun i hi => by
    rw [World.cell?_setCells_out g us o wr ⟨g, i, none⟩ (fun _ _ => by simp; omega)]
    exact h.done i hi, GrG.trans h.grown (GrG.sets g us o wr)⟩
end
theorem beds_of_cells {w w' : World} {g cap : Nat} {V : List Value} {K : List (List Int)} (hlen : V.length = K.length) (hk : K.length ≤ 1000000) (hcap : K.length ≤ cap) (hc : ∀ i, i < V.length → w'.cell? ⟨g, i, none⟩ = some (V.getD i (.int .i64 0))) (hr : ∀ i, i < V.length → LieW w g (V.getD i (.int .i64 0)) (K.getD i [])) (hg : w.grownBy w' (some g)) : Beds w' (some ⟨g, 0, none⟩) K.length cap K :=
  ⟨rfl, hk, hcap, fun h => (by cases h), fun _ => ⟨g, 0, rfl, fun j hj => by
    obtain ⟨A, c, e, h1, h2, h3, _⟩ := (hr j (by omega)).same hg
    refine ⟨A, c, ?_, h1, h2, h3⟩
    rw [Nat.zero_add, hc j (by omega), e]⟩⟩
theorem enter80 (args : Array Value) (w : World) : (callFunc 28 args).run Tryz.prog w = .ok (.enter 28 args) w := by simp [go_sem]
end Go.Proofs.YtmepndnckcpgjaaGreat

namespace Go.Proofs.YtmepndnckcpgjaaGreat
open Go.RowKit
set_option maxRecDepth 100000 in
set_option maxHeartbeats 8000000 in
/-- slices.CompactFunc -/
theorem f79_rows (g m cap : Nat) (vs : List Value) (L : List (List Int)) (w : World) (R : Value → List Int → Prop) (hRL : ∀ v l, R v l → LieW w g v l) (hm : 0 < m) (hvl : vs.length = m) (hL : L.length = m) (h1M : m ≤ 1000000) (hcap : m ≤ cap) (hc : CellsV w g vs) (hr0 : ∀ j, j < m → R (vs.getD j (.int .i64 0)) (L.getD j [])) :
    Calls Tryz.prog 27 #[.slice (some ⟨g, 0, none⟩) m cap, .func (.func 28) #[] #[]] w fun e w' => e = .returned (.slice (some ⟨g, 0, none⟩) (compF L).length cap) ∧ w.grownBy w' (some g) ∧ ∃ V : List Value, V.length = (compF L).length ∧ V.Sublist vs ∧ (∀ i, i < V.length → w'.cell? ⟨g, i, none⟩ = some (V.getD i (.int .i64 0))) ∧ ∀ i, i < V.length → R (V.getD i (.int .i64 0)) ((compF L).getD i []) := by
  have hr : ∀ j, j < m → LieW w g (vs.getD j (.int .i64 0)) (L.getD j []) := fun j hj => hRL _ _ (hr0 j hj)
  have HR0 := Lib.hid hr0
  have HSU : Hid (∀ V : List Value, ∀ k, V.Sublist (vs.take k) → V.Sublist vs) := Lib.hid fun V k h => h.trans (List.take_sublist _ _)
  have HVE : Hid (∀ i, i < m → vs[i]? = some (vs.getD i (.int .i64 0))) := Lib.hid fun i hi => by rw [List.getElem?_eq_getElem (by omega)]; simp [List.getD_eq_getElem?_getD, show i < vs.length by omega]
  have HR := Lib.hid hr
  have HL := Lib.hid hL
  have HVL := Lib.hid hvl
  have HTL : Hid (L.take m = L) := Lib.hid (List.take_of_length_le (by omega))
  have HFI : Hid (compF (L.take 1) = L.take 1) := Lib.hid (compTo_first (by omega))
  have HSA : Hid (∀ q, q + 1 < m → L.getD (q + 1) [] = L.getD q [] → compF (L.take (q + 2)) = compF (L.take (q + 1))) := Lib.hid fun q h e => compTo_same (by omega) e
  have HMO : Hid (∀ q, q + 1 < m → ¬ L.getD (q + 1) [] = L.getD q [] → compF (L.take (q + 2)) = compF (L.take (q + 1)) ++ [L.getD (q + 1) []]) := Lib.hid fun q h e => compTo_more (by omega) e
  have HT1 : Hid (∀ q, q < m → L.take (q + 1) = L.take q ++ [L.getD q []]) := Lib.hid fun q h => take_one (by omega)
  have HC0 : Hid (∀ i, i < m → w.cell? ⟨g, i, none⟩ = some (vs.getD i (.int .i64 0)) ∧ w.frozen? ⟨g, i, none⟩ = false) := Lib.hid fun i h => hc i (by omega)
  -- the row as it comes, as far as it has no neighbours alike
  have HST : Hid (∀ q z, q + 1 ≤ m → CmI R w g m vs (q + 1) (vs.take (q + 1)) (L.take (q + 1)) (w.drewN z)) := Lib.hid fun q z hq =>
    have hg : ∀ i, i < (vs.take (q + 1)).length → i < m ∧ (vs.take (q + 1)).getD i (.int .i64 0) = vs.getD i (.int .i64 0) ∧ (L.take (q + 1)).getD i [] = L.getD i [] := fun i hi => by
      rw [List.length_take] at hi
      refine ⟨by omega, ?_, ?_⟩
      · simp [List.getD_eq_getElem?_getD, show i < q + 1 by omega]
      · simp [List.getD_eq_getElem?_getD, show i < q + 1 by omega]
    ⟨GrG.drewN g w z, by rw [List.length_take, List.length_take, hvl, hL], fun i hi => by
      obtain ⟨h1, h2, _⟩ := hg i hi
      rw [h2]
      exact (hc i (by omega)).1, fun i hi => by
      obtain ⟨h1, h2, h3⟩ := hg i hi
      rw [h2, h3]
      exact hr0 i h1, by
      have e : vs.take (q + 1) = (vs.take (q + 1 + 1)).take (q + 1) := by rw [List.take_take, Nat.min_eq_left (by omega)]
      rw [e]
      exact List.take_sublist _ _, fun i _ hi => (hc i (by omega)).1, fun i hi => by
      have h : (w.drewN z).cell? ⟨g, i, none⟩ = _ := (hc i (by omega)).1
      rw [h]; rfl, fun i hi => (hc i (by omega)).2⟩
  have HW : Hid (∀ i, i < m → (∃ A c, vs.getD i (.int .i64 0) = .slice A (L.getD i []).length c)) := Lib.hid fun i hi => by
    obtain ⟨A, c, e, _⟩ := hr i hi
    exact ⟨A, c, e⟩
  have K80 : Hid (∀ (W : World) (a b : Nat) (A B : Option Addr) (c d : Nat), w.grownBy W (some g) → a < m → b < m → vs.getD a (.int .i64 0) = .slice A (L.getD a []).length c → vs.getD b (.int .i64 0) = .slice B (L.getD b []).length d →
      Calls Tryz.prog 28 #[.slice A (L.getD a []).length c, .slice B (L.getD b []).length d] W fun e w' => e = .returned (.bool (decide (L.getD a [] = L.getD b []))) ∧ ∃ k, w' = W.drewN k) := Lib.hid fun W a b A B c d hW ha hb ea eb => by
    obtain ⟨A', c', e1, _, _, hi1, _⟩ := (hr a ha).same hW
    rw [ea] at e1
    injection e1 with e1 _ e2
    subst e1 e2
    obtain ⟨B', d', e1, _, _, hi2, _⟩ := (hr b hb).same hW
    rw [eb] at e1
    injection e1 with e1 _ e2
    subst e1 e2
    exact f80s_any _ _ _ _ _ _ _ _ W hi1 hi2
  have hen := enter80
  have hmc : (m : Int) ≤ (cap : Int) := by omega
  clear hr hr0 hRL hL hvl hc
  by_cases hm2 : m < 2
  · obtain rfl : m = 1 := by omega
    have HE : Hid (compF L = L) := Lib.hid (by have h1 := HFI.out; rw [HTL.out] at h1; exact h1)
    go_enter Tryz.func27, Tryz.ntmps27
    go_wp2
    go_ret
    have hS := HST.out 0 0 (by omega)
    refine ⟨by rw [HE.out, HL.out]; rfl, World.grownBy.refl w _, vs, ?_⟩
    have h1 : vs.take 1 = vs := List.take_of_length_le (by rw [HVL.out]; omega)
    rw [show (0 : Nat) + 1 = 1 from rfl, HTL.out, h1] at hS
    rw [HE.out]
    exact ⟨hS.len, List.Sublist.refl _, hS.done, hS.rows⟩
  have hm3 : ¬ (m : Int) < 2 := by omega
  go_enter Tryz.func27, Tryz.ntmps27
  go_wp2
  go_loopw [5] (fun ki wr => ∃ q z : Nat, q + 1 ≤ m ∧ ki = .int .i64 ((q + 1 : Nat) : Int) ∧ Hid (compF (L.take (q + 1)) = L.take (q + 1)) ∧ wr = w.drewN z) (fun ki _ => m - (intOf ki).toNat)
  case atStart => exact ⟨0, 0, by omega, rfl, HFI, rfl⟩
  case round => as_aux_lemma =>
    obtain ⟨q, z, hq, rfl, hK, rfl⟩ := hrel
    have e1 : ((q + 1 : Nat) : Int) = (q : Int) + 1 := by omega
    rw [e1]
    have hw0 : IntKind.i64.wrap ((q : Int) + 1) = (q : Int) + 1 := IntWalk.i64_in _ (by omega)
    have hwq : IntKind.i64.wrap (q : Int) = (q : Int) := IntWalk.i64_in _ (by omega)
    have hq0 : ¬ (q : Int) + 1 < 0 := by omega
    have hq2 : (0 : Int) ≤ (q : Int) := by omega
    have hq3 : (q : Int) < (m : Int) := by omega
    have hq4 : (0 : Int) ≤ (q : Int) + 1 := by omega
    by_cases hqm : q + 1 < m
    · have hq1 : (q : Int) + 1 < (m : Int) := by omega
      obtain ⟨A1, c1, v1⟩ := HW.out (q + 1) hqm
      obtain ⟨A0, c0, v0⟩ := HW.out q (by omega)
      have KC := Lib.hid fun W hW => K80.out W (q + 1) q A1 A0 c1 c0 hW hqm (by omega) v1 v0
      have t1 := (HC0.out (q + 1) hqm).1
      have t0 := (HC0.out q (by omega)).1
      rw [v1] at t1
      rw [v0] at t0
      have HSA1 := Lib.hid (HSA.out q hqm)
      have HMO1 := Lib.hid (HMO.out q hqm)
      have HV1 := Lib.hid v1
      have HT2 := Lib.hid (HT1.out (q + 1) hqm)
      clear v1 v0 e1
      obtain ⟨n1, hn1⟩ : ∃ z, z = (L.getD (q + 1) []).length := ⟨_, rfl⟩
      obtain ⟨n0, hn0⟩ : ∃ z, z = (L.getD q []).length := ⟨_, rfl⟩
      rw [← hn1] at t1 KC
      rw [← hn0] at t0 KC
      clear hn1 hn0
      have T1 : Hid (∀ k, (w.drewN k).cell? ⟨g, q + 1, none⟩ = some (.slice A1 n1 c1) ∧ (w.drewN k).cell? ⟨g, q, none⟩ = some (.slice A0 n0 c0)) := Lib.hid fun k => ⟨t1, t0⟩
      clear t1 t0
      by_cases he : L.getD (q + 1) [] = L.getD q []
      · have HE : Hid (compF (L.take (q + 2)) = L.take (q + 1)) := Lib.hid ((HSA1.out he).trans hK.out)
        rw [decide_eq_true he] at KC
        clear he
        go_wp2_with fail
        refine wp_region_held_drew (S := fun W => W.cell? ⟨g, q + 1, none⟩ = some (.slice A1 n1 c1) ∧ W.cell? ⟨g, q, none⟩ = some (.slice A0 n0 c0)) (by kernel_rfl) (T1.out 0) (fun hS => ?_)
        refine wpAnyH_take (i := 0) (oi := { dst := some 18, op := Op.move (Operand.tmp 1), type := 57, pos := "slices.go:401", after := #[], guard := none }) (v := (.func (.func 28) #[] #[])) rfl (by kernel_rfl) (by kernel_rfl) (by kernel_rfl) (fun _ _ _ h => h) (Or.inl ⟨by kernel_rfl, fun W hSW => by kernel_rfl⟩) hS ?_
        try simp only [Act.put, List.setIfInBounds_toArray, List.set_cons_zero, List.set_cons_succ]
        refine wpAnyH_take (i := 1) (oi := { dst := some 19, op := Op.move (Operand.tmp 0), type := 29, pos := "slices.go:401", after := #[], guard := none }) (v := .slice (some ⟨g, 0, none⟩) m cap) rfl (by kernel_rfl) (by kernel_rfl) (by kernel_rfl) (fun _ _ _ h => h) (Or.inl ⟨by kernel_rfl, fun W hSW => by kernel_rfl⟩) hS ?_
        try simp only [Act.put, List.setIfInBounds_toArray, List.set_cons_zero, List.set_cons_succ]
        refine wpAnyH_take (i := 2) (oi := { dst := some 20, op := Op.move (Operand.tmp 5), type := 3, pos := "slices.go:401", after := #[], guard := none }) (v := .int .i64 ((q : Int) + 1)) rfl (by kernel_rfl) (by kernel_rfl) (by kernel_rfl) (fun _ _ _ h => h) (Or.inl ⟨by kernel_rfl, fun W hSW => by kernel_rfl⟩) hS ?_
        try simp only [Act.put, List.setIfInBounds_toArray, List.set_cons_zero, List.set_cons_succ]
        refine wpAnyH_take (i := 3) (oi := { dst := some 21, op := Op.indexAddr 29 (Operand.tmp 19) (Operand.tmp 20), type := 0, pos := "slices.go:401", after := #[{ on := 1, ground := Ground.data }, { on := 2, ground := Ground.data }], guard := none }) (v := .pointer (some ⟨g, q + 1, none⟩)) rfl (by kernel_rfl) (by kernel_rfl) (by kernel_rfl) (fun _ _ _ h => h) (Or.inl ⟨by kernel_rfl, fun W hSW => by go_simp⟩) hS ?_
        try simp only [Act.put, List.setIfInBounds_toArray, List.set_cons_zero, List.set_cons_succ]
        refine wpAnyH_take (i := 4) (oi := { dst := some 22, op := Op.load 23 (Operand.tmp 21), type := 23, pos := "slices.go:401", after := #[{ on := 3, ground := Ground.data }], guard := none }) (v := .slice A1 n1 c1) rfl (by kernel_rfl) (by kernel_rfl) (by kernel_rfl) (fun _ _ _ h => h) (Or.inl ⟨by kernel_rfl, fun W hSW => by obtain ⟨h1, h2⟩ := hSW; go_simp⟩) hS ?_
        try simp only [Act.put, List.setIfInBounds_toArray, List.set_cons_zero, List.set_cons_succ]
        refine wpAnyH_take (i := 5) (oi := { dst := some 23, op := Op.move (Operand.tmp 0), type := 29, pos := "slices.go:401", after := #[], guard := none }) (v := .slice (some ⟨g, 0, none⟩) m cap) rfl (by kernel_rfl) (by kernel_rfl) (by kernel_rfl) (fun _ _ _ h => h) (Or.inl ⟨by kernel_rfl, fun W hSW => by kernel_rfl⟩) hS ?_
        try simp only [Act.put, List.setIfInBounds_toArray, List.set_cons_zero, List.set_cons_succ]
        refine wpAnyH_take (i := 6) (oi := { dst := some 24, op := Op.move (Operand.tmp 5), type := 3, pos := "slices.go:401", after := #[], guard := none }) (v := .int .i64 ((q : Int) + 1)) rfl (by kernel_rfl) (by kernel_rfl) (by kernel_rfl) (fun _ _ _ h => h) (Or.inl ⟨by kernel_rfl, fun W hSW => by kernel_rfl⟩) hS ?_
        try simp only [Act.put, List.setIfInBounds_toArray, List.set_cons_zero, List.set_cons_succ]
        refine wpAnyH_take (i := 7) (oi := { dst := some 25, op := Op.binOp BinOp.sub 3 (Operand.tmp 24) (Operand.const (Value.int IntKind.i64 1)) 3, type := 3, pos := "slices.go:401", after := #[{ on := 6, ground := Ground.data }], guard := none }) (v := .int .i64 (q : Int)) rfl (by kernel_rfl) (by kernel_rfl) (by kernel_rfl) (fun _ _ _ h => h) (Or.inl ⟨by kernel_rfl, fun W hSW => by go_simp⟩) hS ?_
        try simp only [Act.put, List.setIfInBounds_toArray, List.set_cons_zero, List.set_cons_succ]
        refine wpAnyH_take (i := 8) (oi := { dst := some 26, op := Op.indexAddr 29 (Operand.tmp 23) (Operand.tmp 25), type := 0, pos := "slices.go:401", after := #[{ on := 5, ground := Ground.data }, { on := 7, ground := Ground.data }], guard := none }) (v := .pointer (some ⟨g, q, none⟩)) rfl (by kernel_rfl) (by kernel_rfl) (by kernel_rfl) (fun _ _ _ h => h) (Or.inl ⟨by kernel_rfl, fun W hSW => by go_simp⟩) hS ?_
        try simp only [Act.put, List.setIfInBounds_toArray, List.set_cons_zero, List.set_cons_succ]
        refine wpAnyH_take (i := 9) (oi := { dst := some 27, op := Op.load 23 (Operand.tmp 26), type := 23, pos := "slices.go:401", after := #[{ on := 8, ground := Ground.data }], guard := none }) (v := .slice A0 n0 c0) rfl (by kernel_rfl) (by kernel_rfl) (by kernel_rfl) (fun _ _ _ h => h) (Or.inl ⟨by kernel_rfl, fun W hSW => by obtain ⟨h1, h2⟩ := hSW; go_simp⟩) hS ?_
        try simp only [Act.put, List.setIfInBounds_toArray, List.set_cons_zero, List.set_cons_succ]
        refine wpAnyH_ready (rs := [10]) (by kernel_rfl) (by simp) ?_
        refine AllReadyH.cons (o := { dst := some 28, op := Op.call { callee := Callee.value (Operand.tmp 18), args := #[Operand.tmp 22, Operand.tmp 27], argTypes := #[23, 23] }, type := 4, pos := "slices.go:401", after := #[{ on := 0, ground := Ground.data }, { on := 4, ground := Ground.data }, { on := 9, ground := Ground.data }], guard := none }) rfl (fun K hK => ?_) AllReadyH.nil
        go_simp
        refine (KC.out _ (by exact GrG.drewN g w _)).mono ?_
        rintro e w3 ⟨rfl, kk, rfl⟩
        refine hK.out _ _ (T1.out 0) (fun hS => ?_)
        clear hK K
        try simp only [Act.put, List.setIfInBounds_toArray, List.set_cons_zero, List.set_cons_succ]
        refine wpAnyH_done (by kernel_rfl) ?_ _
        obtain ⟨z3, hz3⟩ : ∃ z3, z3 = z := ⟨_, rfl⟩
        clear hz3
        go_wp2
        obtain ⟨M2, hM2⟩ : ∃ M2, M2 = m - (q + 1) := ⟨_, rfl⟩
        obtain ⟨C2, hC2⟩ : ∃ C2, C2 = cap - (q + 1) := ⟨_, rfl⟩
        rw [← hM2, ← hC2]
        have hMM : q + 1 + M2 = m := by omega
        have HMM := Lib.hid hMM
        clear hM2 hC2 KC
        go_loopw [7, 5] (fun ji ki wr => ∃ (t : Nat) (V : List Value), t + 1 ≤ M2 ∧ ji = .int .i64 ((t + 1 : Nat) : Int) ∧ ki = .int .i64 (V.length : Int) ∧ V.length ≤ q + 1 + t ∧ Hid (CmI R w g m vs (q + 1 + t) V (compF (L.take (q + 1 + (t + 1)))) wr)) (fun ji _ _ => M2 - (intOf ji).toNat)
        case atStart =>
          have h1 : (vs.take (q + 1)).length = q + 1 := by rw [List.length_take, HVL.out]; omega
          exact ⟨0, vs.take (q + 1), by omega, rfl, by rw [h1]; rfl, by omega, Lib.hid (by rw [show q + 1 + (0 + 1) = q + 2 by omega, HE.out]; exact HST.out q _ hq)⟩
        case round => as_aux_lemma =>
          obtain ⟨t, V, htM, rfl, rfl, hV, hI⟩ := hrel
          have e1 : ((t + 1 : Nat) : Int) = (t : Int) + 1 := by omega
          rw [e1]
          have hI := Lib.hid hI.out
          by_cases hlt : t + 1 < M2
          · obtain ⟨A1, c1, v1⟩ := HW.out (q + 1 + (t + 1)) (by omega)
            obtain ⟨A0, c0, v0⟩ := HW.out (q + 1 + t) (by omega)
            have K2 := Lib.hid fun W hW => K80.out W (q + 1 + (t + 1)) (q + 1 + t) A1 A0 c1 c0 (GrG.trans hI.out.grown hW) (by omega) (by omega) v1 v0
            have t1 := hI.out.rest (q + 1 + (t + 1)) (by omega) (by omega)
            have t0 := hI.out.rest (q + 1 + t) (by omega) (by omega)
            rw [v1] at t1
            rw [v0] at t0
            have HSA1 := Lib.hid (HSA.out (q + 1 + t) (by omega))
            have HMO1 := Lib.hid (HMO.out (q + 1 + t) (by omega))
            have HV1 := Lib.hid v1
            clear v1 v0 e1
            obtain ⟨n1, hn1⟩ : ∃ z, z = (L.getD (q + 1 + (t + 1)) []).length := ⟨_, rfl⟩
            obtain ⟨n0, hn0⟩ : ∃ z, z = (L.getD (q + 1 + t) []).length := ⟨_, rfl⟩
            rw [← hn1] at t1 K2
            rw [← hn0] at t0 K2
            have HN1 := Lib.hid hn1
            clear hn1 hn0
            have T2 : Hid (∀ k, (wr.drewN k).cell? ⟨g, q + 1 + (t + 1), none⟩ = some (.slice A1 n1 c1) ∧ (wr.drewN k).cell? ⟨g, q + 1 + t, none⟩ = some (.slice A0 n0 c0)) := Lib.hid fun k => ⟨t1, t0⟩
            clear t1 t0
            have hwt : IntKind.i64.wrap (t : Int) = (t : Int) := IntWalk.i64_in _ (by omega)
            have ht0 : ¬ (t : Int) + 1 < 0 := by omega
            have ht2 : (0 : Int) ≤ (t : Int) := by omega
            have ht3 : (t : Int) < (M2 : Int) := by omega
            have ht4 : (0 : Int) ≤ (t : Int) + 1 := by omega
            have ht5 : (t : Int) + 1 < (M2 : Int) := by omega
            by_cases he : L.getD (q + 1 + (t + 1)) [] = L.getD (q + 1 + t) []
            · have HE2 : Hid (compF (L.take (q + 1 + (t + 1 + 1))) = compF (L.take (q + 1 + (t + 1)))) := Lib.hid (HSA1.out he)
              rw [decide_eq_true he] at K2
              clear he
              go_wp2_with fail
              refine wp_region_held_drew (S := fun W => W.cell? ⟨g, q + 1 + (t + 1), none⟩ = some (.slice A1 n1 c1) ∧ W.cell? ⟨g, q + 1 + t, none⟩ = some (.slice A0 n0 c0)) (by kernel_rfl) (T2.out 0) (fun hS => ?_)
              refine wpAnyH_take (i := 0) (oi := { dst := some 38, op := Op.move (Operand.tmp 1), type := 57, pos := "slices.go:404", after := #[], guard := none }) (v := (.func (.func 28) #[] #[])) rfl (by kernel_rfl) (by kernel_rfl) (by kernel_rfl) (fun _ _ _ h => h) (Or.inl ⟨by kernel_rfl, fun W hSW => by kernel_rfl⟩) hS ?_
              try simp only [Act.put, List.setIfInBounds_toArray, List.set_cons_zero, List.set_cons_succ]
              refine wpAnyH_take (i := 1) (oi := { dst := some 39, op := Op.move (Operand.tmp 6), type := 29, pos := "slices.go:404", after := #[], guard := none }) (v := .slice (some ⟨g, q + 1, none⟩) M2 C2) rfl (by kernel_rfl) (by kernel_rfl) (by kernel_rfl) (fun _ _ _ h => h) (Or.inl ⟨by kernel_rfl, fun W hSW => by kernel_rfl⟩) hS ?_
              try simp only [Act.put, List.setIfInBounds_toArray, List.set_cons_zero, List.set_cons_succ]
              refine wpAnyH_take (i := 2) (oi := { dst := some 40, op := Op.move (Operand.tmp 7), type := 3, pos := "slices.go:404", after := #[], guard := none }) (v := .int .i64 ((t : Int) + 1)) rfl (by kernel_rfl) (by kernel_rfl) (by kernel_rfl) (fun _ _ _ h => h) (Or.inl ⟨by kernel_rfl, fun W hSW => by kernel_rfl⟩) hS ?_
              try simp only [Act.put, List.setIfInBounds_toArray, List.set_cons_zero, List.set_cons_succ]
              refine wpAnyH_take (i := 3) (oi := { dst := some 41, op := Op.indexAddr 29 (Operand.tmp 39) (Operand.tmp 40), type := 0, pos := "slices.go:404", after := #[{ on := 1, ground := Ground.data }, { on := 2, ground := Ground.data }], guard := none }) (v := .pointer (some ⟨g, q + 1 + (t + 1), none⟩)) rfl (by kernel_rfl) (by kernel_rfl) (by kernel_rfl) (fun _ _ _ h => h) (Or.inl ⟨by kernel_rfl, fun W hSW => by go_simp⟩) hS ?_
              try simp only [Act.put, List.setIfInBounds_toArray, List.set_cons_zero, List.set_cons_succ]
              refine wpAnyH_take (i := 4) (oi := { dst := some 42, op := Op.load 23 (Operand.tmp 41), type := 23, pos := "slices.go:404", after := #[{ on := 3, ground := Ground.data }], guard := none }) (v := .slice A1 n1 c1) rfl (by kernel_rfl) (by kernel_rfl) (by kernel_rfl) (fun _ _ _ h => h) (Or.inl ⟨by kernel_rfl, fun W hSW => by obtain ⟨h1, h2⟩ := hSW; go_simp⟩) hS ?_
              try simp only [Act.put, List.setIfInBounds_toArray, List.set_cons_zero, List.set_cons_succ]
              refine wpAnyH_take (i := 5) (oi := { dst := some 43, op := Op.move (Operand.tmp 6), type := 29, pos := "slices.go:404", after := #[], guard := none }) (v := .slice (some ⟨g, q + 1, none⟩) M2 C2) rfl (by kernel_rfl) (by kernel_rfl) (by kernel_rfl) (fun _ _ _ h => h) (Or.inl ⟨by kernel_rfl, fun W hSW => by kernel_rfl⟩) hS ?_
              try simp only [Act.put, List.setIfInBounds_toArray, List.set_cons_zero, List.set_cons_succ]
              refine wpAnyH_take (i := 6) (oi := { dst := some 44, op := Op.move (Operand.tmp 7), type := 3, pos := "slices.go:404", after := #[], guard := none }) (v := .int .i64 ((t : Int) + 1)) rfl (by kernel_rfl) (by kernel_rfl) (by kernel_rfl) (fun _ _ _ h => h) (Or.inl ⟨by kernel_rfl, fun W hSW => by kernel_rfl⟩) hS ?_
              try simp only [Act.put, List.setIfInBounds_toArray, List.set_cons_zero, List.set_cons_succ]
              refine wpAnyH_take (i := 7) (oi := { dst := some 45, op := Op.binOp BinOp.sub 3 (Operand.tmp 44) (Operand.const (Value.int IntKind.i64 1)) 3, type := 3, pos := "slices.go:404", after := #[{ on := 6, ground := Ground.data }], guard := none }) (v := .int .i64 (t : Int)) rfl (by kernel_rfl) (by kernel_rfl) (by kernel_rfl) (fun _ _ _ h => h) (Or.inl ⟨by kernel_rfl, fun W hSW => by go_simp⟩) hS ?_
              try simp only [Act.put, List.setIfInBounds_toArray, List.set_cons_zero, List.set_cons_succ]
              refine wpAnyH_take (i := 8) (oi := { dst := some 46, op := Op.indexAddr 29 (Operand.tmp 43) (Operand.tmp 45), type := 0, pos := "slices.go:404", after := #[{ on := 5, ground := Ground.data }, { on := 7, ground := Ground.data }], guard := none }) (v := .pointer (some ⟨g, q + 1 + t, none⟩)) rfl (by kernel_rfl) (by kernel_rfl) (by kernel_rfl) (fun _ _ _ h => h) (Or.inl ⟨by kernel_rfl, fun W hSW => by go_simp⟩) hS ?_
              try simp only [Act.put, List.setIfInBounds_toArray, List.set_cons_zero, List.set_cons_succ]
              refine wpAnyH_take (i := 9) (oi := { dst := some 47, op := Op.load 23 (Operand.tmp 46), type := 23, pos := "slices.go:404", after := #[{ on := 8, ground := Ground.data }], guard := none }) (v := .slice A0 n0 c0) rfl (by kernel_rfl) (by kernel_rfl) (by kernel_rfl) (fun _ _ _ h => h) (Or.inl ⟨by kernel_rfl, fun W hSW => by obtain ⟨h1, h2⟩ := hSW; go_simp⟩) hS ?_
              try simp only [Act.put, List.setIfInBounds_toArray, List.set_cons_zero, List.set_cons_succ]
              refine wpAnyH_ready (rs := [10]) (by kernel_rfl) (by simp) ?_
              refine AllReadyH.cons (o := { dst := some 48, op := Op.call { callee := Callee.value (Operand.tmp 38), args := #[Operand.tmp 42, Operand.tmp 47], argTypes := #[23, 23] }, type := 4, pos := "slices.go:404", after := #[{ on := 0, ground := Ground.data }, { on := 4, ground := Ground.data }, { on := 9, ground := Ground.data }], guard := none }) rfl (fun K hK => ?_) AllReadyH.nil
              go_simp
              refine (K2.out _ (by exact ⟨rfl, rfl, rfl, Nat.le_refl _, fun _ _ _ => rfl⟩)).mono ?_
              rintro e w3 ⟨rfl, kk, rfl⟩
              refine hK.out _ _ (T2.out 0) (fun hS => ?_)
              clear hK K
              try simp only [Act.put, List.setIfInBounds_toArray, List.set_cons_zero, List.set_cons_succ]
              refine wpAnyH_take (i := 11) (oi := { dst := some 49, op := Op.unOp UnOp.not 4 (Operand.tmp 48), type := 4, pos := "slices.go:404", after := #[{ on := 10, ground := Ground.data }], guard := none }) (v := .bool false) rfl (by kernel_rfl) (by kernel_rfl) (by kernel_rfl) (fun _ _ _ h => h) (Or.inl ⟨by kernel_rfl, fun W hSW => by go_simp⟩) hS ?_
              try simp only [Act.put, List.setIfInBounds_toArray, List.set_cons_zero, List.set_cons_succ]
              refine wpAnyH_done (by kernel_rfl) ?_ _
              go_wp2
              go_roundw
              case rel => exact ⟨t + 1, V, by omega, by go_num, rfl, by omega, Lib.hid (by rw [HE2.out]; exact (hI.out.skip (by omega)).drewN _)⟩
              case measure => simp [intOf]; omega
            · have HE2 : Hid (compF (L.take (q + 1 + (t + 1 + 1))) = compF (L.take (q + 1 + (t + 1))) ++ [L.getD (q + 1 + (t + 1)) []]) := Lib.hid (HMO1.out he)
              rw [decide_eq_false he] at K2
              clear he
              go_wp2_with fail
              refine wp_region_held_drew (S := fun W => W.cell? ⟨g, q + 1 + (t + 1), none⟩ = some (.slice A1 n1 c1) ∧ W.cell? ⟨g, q + 1 + t, none⟩ = some (.slice A0 n0 c0)) (by kernel_rfl) (T2.out 0) (fun hS => ?_)
              refine wpAnyH_take (i := 0) (oi := { dst := some 38, op := Op.move (Operand.tmp 1), type := 57, pos := "slices.go:404", after := #[], guard := none }) (v := (.func (.func 28) #[] #[])) rfl (by kernel_rfl) (by kernel_rfl) (by kernel_rfl) (fun _ _ _ h => h) (Or.inl ⟨by kernel_rfl, fun W hSW => by kernel_rfl⟩) hS ?_
              try simp only [Act.put, List.setIfInBounds_toArray, List.set_cons_zero, List.set_cons_succ]
              refine wpAnyH_take (i := 1) (oi := { dst := some 39, op := Op.move (Operand.tmp 6), type := 29, pos := "slices.go:404", after := #[], guard := none }) (v := .slice (some ⟨g, q + 1, none⟩) M2 C2) rfl (by kernel_rfl) (by kernel_rfl) (by kernel_rfl) (fun _ _ _ h => h) (Or.inl ⟨by kernel_rfl, fun W hSW => by kernel_rfl⟩) hS ?_
              try simp only [Act.put, List.setIfInBounds_toArray, List.set_cons_zero, List.set_cons_succ]
              refine wpAnyH_take (i := 2) (oi := { dst := some 40, op := Op.move (Operand.tmp 7), type := 3, pos := "slices.go:404", after := #[], guard := none }) (v := .int .i64 ((t : Int) + 1)) rfl (by kernel_rfl) (by kernel_rfl) (by kernel_rfl) (fun _ _ _ h => h) (Or.inl ⟨by kernel_rfl, fun W hSW => by kernel_rfl⟩) hS ?_
              try simp only [Act.put, List.setIfInBounds_toArray, List.set_cons_zero, List.set_cons_succ]
              refine wpAnyH_take (i := 3) (oi := { dst := some 41, op := Op.indexAddr 29 (Operand.tmp 39) (Operand.tmp 40), type := 0, pos := "slices.go:404", after := #[{ on := 1, ground := Ground.data }, { on := 2, ground := Ground.data }], guard := none }) (v := .pointer (some ⟨g, q + 1 + (t + 1), none⟩)) rfl (by kernel_rfl) (by kernel_rfl) (by kernel_rfl) (fun _ _ _ h => h) (Or.inl ⟨by kernel_rfl, fun W hSW => by go_simp⟩) hS ?_
              try simp only [Act.put, List.setIfInBounds_toArray, List.set_cons_zero, List.set_cons_succ]
              refine wpAnyH_take (i := 4) (oi := { dst := some 42, op := Op.load 23 (Operand.tmp 41), type := 23, pos := "slices.go:404", after := #[{ on := 3, ground := Ground.data }], guard := none }) (v := .slice A1 n1 c1) rfl (by kernel_rfl) (by kernel_rfl) (by kernel_rfl) (fun _ _ _ h => h) (Or.inl ⟨by kernel_rfl, fun W hSW => by obtain ⟨h1, h2⟩ := hSW; go_simp⟩) hS ?_
              try simp only [Act.put, List.setIfInBounds_toArray, List.set_cons_zero, List.set_cons_succ]
              refine wpAnyH_take (i := 5) (oi := { dst := some 43, op := Op.move (Operand.tmp 6), type := 29, pos := "slices.go:404", after := #[], guard := none }) (v := .slice (some ⟨g, q + 1, none⟩) M2 C2) rfl (by kernel_rfl) (by kernel_rfl) (by kernel_rfl) (fun _ _ _ h => h) (Or.inl ⟨by kernel_rfl, fun W hSW => by kernel_rfl⟩) hS ?_
              try simp only [Act.put, List.setIfInBounds_toArray, List.set_cons_zero, List.set_cons_succ]
              refine wpAnyH_take (i := 6) (oi := { dst := some 44, op := Op.move (Operand.tmp 7), type := 3, pos := "slices.go:404", after := #[], guard := none }) (v := .int .i64 ((t : Int) + 1)) rfl (by kernel_rfl) (by kernel_rfl) (by kernel_rfl) (fun _ _ _ h => h) (Or.inl ⟨by kernel_rfl, fun W hSW => by kernel_rfl⟩) hS ?_
              try simp only [Act.put, List.setIfInBounds_toArray, List.set_cons_zero, List.set_cons_succ]
              refine wpAnyH_take (i := 7) (oi := { dst := some 45, op := Op.binOp BinOp.sub 3 (Operand.tmp 44) (Operand.const (Value.int IntKind.i64 1)) 3, type := 3, pos := "slices.go:404", after := #[{ on := 6, ground := Ground.data }], guard := none }) (v := .int .i64 (t : Int)) rfl (by kernel_rfl) (by kernel_rfl) (by kernel_rfl) (fun _ _ _ h => h) (Or.inl ⟨by kernel_rfl, fun W hSW => by go_simp⟩) hS ?_
              try simp only [Act.put, List.setIfInBounds_toArray, List.set_cons_zero, List.set_cons_succ]
              refine wpAnyH_take (i := 8) (oi := { dst := some 46, op := Op.indexAddr 29 (Operand.tmp 43) (Operand.tmp 45), type := 0, pos := "slices.go:404", after := #[{ on := 5, ground := Ground.data }, { on := 7, ground := Ground.data }], guard := none }) (v := .pointer (some ⟨g, q + 1 + t, none⟩)) rfl (by kernel_rfl) (by kernel_rfl) (by kernel_rfl) (fun _ _ _ h => h) (Or.inl ⟨by kernel_rfl, fun W hSW => by go_simp⟩) hS ?_
              try simp only [Act.put, List.setIfInBounds_toArray, List.set_cons_zero, List.set_cons_succ]
              refine wpAnyH_take (i := 9) (oi := { dst := some 47, op := Op.load 23 (Operand.tmp 46), type := 23, pos := "slices.go:404", after := #[{ on := 8, ground := Ground.data }], guard := none }) (v := .slice A0 n0 c0) rfl (by kernel_rfl) (by kernel_rfl) (by kernel_rfl) (fun _ _ _ h => h) (Or.inl ⟨by kernel_rfl, fun W hSW => by obtain ⟨h1, h2⟩ := hSW; go_simp⟩) hS ?_
              try simp only [Act.put, List.setIfInBounds_toArray, List.set_cons_zero, List.set_cons_succ]
              refine wpAnyH_ready (rs := [10]) (by kernel_rfl) (by simp) ?_
              refine AllReadyH.cons (o := { dst := some 48, op := Op.call { callee := Callee.value (Operand.tmp 38), args := #[Operand.tmp 42, Operand.tmp 47], argTypes := #[23, 23] }, type := 4, pos := "slices.go:404", after := #[{ on := 0, ground := Ground.data }, { on := 4, ground := Ground.data }, { on := 9, ground := Ground.data }], guard := none }) rfl (fun K hK => ?_) AllReadyH.nil
              go_simp
              refine (K2.out _ (by exact ⟨rfl, rfl, rfl, Nat.le_refl _, fun _ _ _ => rfl⟩)).mono ?_
              rintro e w3 ⟨rfl, kk, rfl⟩
              refine hK.out _ _ (T2.out 0) (fun hS => ?_)
              clear hK K
              try simp only [Act.put, List.setIfInBounds_toArray, List.set_cons_zero, List.set_cons_succ]
              refine wpAnyH_take (i := 11) (oi := { dst := some 49, op := Op.unOp UnOp.not 4 (Operand.tmp 48), type := 4, pos := "slices.go:404", after := #[{ on := 10, ground := Ground.data }], guard := none }) (v := .bool true) rfl (by kernel_rfl) (by kernel_rfl) (by kernel_rfl) (fun _ _ _ h => h) (Or.inl ⟨by kernel_rfl, fun W hSW => by go_simp⟩) hS ?_
              try simp only [Act.put, List.setIfInBounds_toArray, List.set_cons_zero, List.set_cons_succ]
              refine wpAnyH_done (by kernel_rfl) ?_ _
              have hV0 : (0 : Int) ≤ (V.length : Int) := by omega
              have hVm : (V.length : Int) < (m : Int) := by omega
              obtain ⟨u, hu⟩ := Option.isSome_iff_exists.1 (hI.out.all V.length (by omega))
              have hfz := hI.out.froz V.length (by omega)
              obtain ⟨p1, _⟩ := T2.out 0
              have p1 : wr.cell? ⟨g, q + 1 + (t + 1), none⟩ = some (.slice A1 n1 c1) := p1
              have HLE : Hid (vs[q + 1 + t + 1]? = some (.slice A1 n1 c1)) := Lib.hid (by
                have h := HVE.out (q + 1 + (t + 1)) (by omega)
                rw [HV1.out, ← HN1.out] at h
                exact h)
              have HLW : Hid (R (.slice A1 n1 c1) (L.getD (q + 1 + (t + 1)) [])) := Lib.hid (by
                have h := HR0.out (q + 1 + (t + 1)) (by omega)
                rw [HV1.out, ← HN1.out] at h
                exact h)
              have hVl : (V ++ [Value.slice A1 n1 c1]).length = V.length + 1 := by simp
              have HVl := Lib.hid hVl
              have hwV : IntKind.i64.wrap ((V.length : Int) + 1) = (V.length : Int) + 1 := IntWalk.i64_in _ (by omega)
              clear hVl
              go_wp2
              go_roundw
              case rel => exact ⟨t + 1, V ++ [.slice A1 n1 c1], by omega, by go_num, by rw [HVl.out]; go_num, by rw [HVl.out]; omega, Lib.hid (by rw [HE2.out]; exact (hI.out.drewN _).put HLW.out HLE.out (by omega) (by omega))⟩
              case measure => simp [intOf]; omega
          · obtain rfl : M2 = t + 1 := by omega
            have HE3 : Hid (compF (L.take (q + 1 + (t + 1))) = compF L) := Lib.hid (by rw [HMM.out, HTL.out])
            rw [HE3.out] at hI
            have hVK : Hid (V.length = (compF L).length) := Lib.hid hI.out.len
            have hVc : (V.length : Int) ≤ (cap : Int) := by omega
            have hVm : (V.length : Int) ≤ (m : Int) := by omega
            have hV0 : (0 : Int) ≤ (V.length : Int) := by omega
            have hVmn : V.length ≤ m := by omega
            have hcl : ∀ ty, (Builtin.clear_ #[29] ty #[.slice (some ⟨g, V.length, none⟩) (m - V.length) (cap - V.length)]).run Tryz.prog wr = .ok (.tuple #[]) (wr.setCells g V.length (List.replicate (m - V.length) (.slice none 0 0))) := fun ty =>
              Lib.run_clear_slice (P := Tryz.prog) wr 29 23 ty (.slice none 0 0) Tryz.underlying29 (fun w => by kernel_rfl) rfl rfl g V.length _ _ (by omega) (fun j hj => hI.out.all (V.length + j) (by omega)) (fun j hj => hI.out.froz (V.length + j) (by omega))
            clear e1
            go_wp2
            go_ret
            obtain ⟨r1, r2⟩ := hI.out.clear (List.replicate (m - V.length) (.slice none 0 0)) (Nat.le_refl V.length)
            exact ⟨by rw [← hVK.out]; rfl, r2, V, hVK.out, HSU.out V _ hI.out.sub, r1, hI.out.rows⟩
      · have HE : Hid (compF (L.take (q + 2)) = L.take (q + 2)) := Lib.hid (by rw [HMO1.out he, hK.out, HT2.out])
        rw [decide_eq_false he] at KC
        clear he
        go_wp2_with fail
        refine wp_region_held_drew (S := fun W => W.cell? ⟨g, q + 1, none⟩ = some (.slice A1 n1 c1) ∧ W.cell? ⟨g, q, none⟩ = some (.slice A0 n0 c0)) (by kernel_rfl) (T1.out 0) (fun hS => ?_)
        refine wpAnyH_take (i := 0) (oi := { dst := some 18, op := Op.move (Operand.tmp 1), type := 57, pos := "slices.go:401", after := #[], guard := none }) (v := (.func (.func 28) #[] #[])) rfl (by kernel_rfl) (by kernel_rfl) (by kernel_rfl) (fun _ _ _ h => h) (Or.inl ⟨by kernel_rfl, fun W hSW => by kernel_rfl⟩) hS ?_
        try simp only [Act.put, List.setIfInBounds_toArray, List.set_cons_zero, List.set_cons_succ]
        refine wpAnyH_take (i := 1) (oi := { dst := some 19, op := Op.move (Operand.tmp 0), type := 29, pos := "slices.go:401", after := #[], guard := none }) (v := .slice (some ⟨g, 0, none⟩) m cap) rfl (by kernel_rfl) (by kernel_rfl) (by kernel_rfl) (fun _ _ _ h => h) (Or.inl ⟨by kernel_rfl, fun W hSW => by kernel_rfl⟩) hS ?_
        try simp only [Act.put, List.setIfInBounds_toArray, List.set_cons_zero, List.set_cons_succ]
        refine wpAnyH_take (i := 2) (oi := { dst := some 20, op := Op.move (Operand.tmp 5), type := 3, pos := "slices.go:401", after := #[], guard := none }) (v := .int .i64 ((q : Int) + 1)) rfl (by kernel_rfl) (by kernel_rfl) (by kernel_rfl) (fun _ _ _ h => h) (Or.inl ⟨by kernel_rfl, fun W hSW => by kernel_rfl⟩) hS ?_
        try simp only [Act.put, List.setIfInBounds_toArray, List.set_cons_zero, List.set_cons_succ]
        refine wpAnyH_take (i := 3) (oi := { dst := some 21, op := Op.indexAddr 29 (Operand.tmp 19) (Operand.tmp 20), type := 0, pos := "slices.go:401", after := #[{ on := 1, ground := Ground.data }, { on := 2, ground := Ground.data }], guard := none }) (v := .pointer (some ⟨g, q + 1, none⟩)) rfl (by kernel_rfl) (by kernel_rfl) (by kernel_rfl) (fun _ _ _ h => h) (Or.inl ⟨by kernel_rfl, fun W hSW => by go_simp⟩) hS ?_
        try simp only [Act.put, List.setIfInBounds_toArray, List.set_cons_zero, List.set_cons_succ]
        refine wpAnyH_take (i := 4) (oi := { dst := some 22, op := Op.load 23 (Operand.tmp 21), type := 23, pos := "slices.go:401", after := #[{ on := 3, ground := Ground.data }], guard := none }) (v := .slice A1 n1 c1) rfl (by kernel_rfl) (by kernel_rfl) (by kernel_rfl) (fun _ _ _ h => h) (Or.inl ⟨by kernel_rfl, fun W hSW => by obtain ⟨h1, h2⟩ := hSW; go_simp⟩) hS ?_
        try simp only [Act.put, List.setIfInBounds_toArray, List.set_cons_zero, List.set_cons_succ]
        refine wpAnyH_take (i := 5) (oi := { dst := some 23, op := Op.move (Operand.tmp 0), type := 29, pos := "slices.go:401", after := #[], guard := none }) (v := .slice (some ⟨g, 0, none⟩) m cap) rfl (by kernel_rfl) (by kernel_rfl) (by kernel_rfl) (fun _ _ _ h => h) (Or.inl ⟨by kernel_rfl, fun W hSW => by kernel_rfl⟩) hS ?_
        try simp only [Act.put, List.setIfInBounds_toArray, List.set_cons_zero, List.set_cons_succ]
        refine wpAnyH_take (i := 6) (oi := { dst := some 24, op := Op.move (Operand.tmp 5), type := 3, pos := "slices.go:401", after := #[], guard := none }) (v := .int .i64 ((q : Int) + 1)) rfl (by kernel_rfl) (by kernel_rfl) (by kernel_rfl) (fun _ _ _ h => h) (Or.inl ⟨by kernel_rfl, fun W hSW => by kernel_rfl⟩) hS ?_
        try simp only [Act.put, List.setIfInBounds_toArray, List.set_cons_zero, List.set_cons_succ]
        refine wpAnyH_take (i := 7) (oi := { dst := some 25, op := Op.binOp BinOp.sub 3 (Operand.tmp 24) (Operand.const (Value.int IntKind.i64 1)) 3, type := 3, pos := "slices.go:401", after := #[{ on := 6, ground := Ground.data }], guard := none }) (v := .int .i64 (q : Int)) rfl (by kernel_rfl) (by kernel_rfl) (by kernel_rfl) (fun _ _ _ h => h) (Or.inl ⟨by kernel_rfl, fun W hSW => by go_simp⟩) hS ?_
        try simp only [Act.put, List.setIfInBounds_toArray, List.set_cons_zero, List.set_cons_succ]
        refine wpAnyH_take (i := 8) (oi := { dst := some 26, op := Op.indexAddr 29 (Operand.tmp 23) (Operand.tmp 25), type := 0, pos := "slices.go:401", after := #[{ on := 5, ground := Ground.data }, { on := 7, ground := Ground.data }], guard := none }) (v := .pointer (some ⟨g, q, none⟩)) rfl (by kernel_rfl) (by kernel_rfl) (by kernel_rfl) (fun _ _ _ h => h) (Or.inl ⟨by kernel_rfl, fun W hSW => by go_simp⟩) hS ?_
        try simp only [Act.put, List.setIfInBounds_toArray, List.set_cons_zero, List.set_cons_succ]
        refine wpAnyH_take (i := 9) (oi := { dst := some 27, op := Op.load 23 (Operand.tmp 26), type := 23, pos := "slices.go:401", after := #[{ on := 8, ground := Ground.data }], guard := none }) (v := .slice A0 n0 c0) rfl (by kernel_rfl) (by kernel_rfl) (by kernel_rfl) (fun _ _ _ h => h) (Or.inl ⟨by kernel_rfl, fun W hSW => by obtain ⟨h1, h2⟩ := hSW; go_simp⟩) hS ?_
        try simp only [Act.put, List.setIfInBounds_toArray, List.set_cons_zero, List.set_cons_succ]
        refine wpAnyH_ready (rs := [10]) (by kernel_rfl) (by simp) ?_
        refine AllReadyH.cons (o := { dst := some 28, op := Op.call { callee := Callee.value (Operand.tmp 18), args := #[Operand.tmp 22, Operand.tmp 27], argTypes := #[23, 23] }, type := 4, pos := "slices.go:401", after := #[{ on := 0, ground := Ground.data }, { on := 4, ground := Ground.data }, { on := 9, ground := Ground.data }], guard := none }) rfl (fun K hK => ?_) AllReadyH.nil
        go_simp
        refine (KC.out _ (by exact GrG.drewN g w _)).mono ?_
        rintro e w3 ⟨rfl, kk, rfl⟩
        refine hK.out _ _ (T1.out 0) (fun hS => ?_)
        clear hK K
        try simp only [Act.put, List.setIfInBounds_toArray, List.set_cons_zero, List.set_cons_succ]
        refine wpAnyH_done (by kernel_rfl) ?_ _
        go_wp2
        go_roundw
        case rel => exact ⟨q + 1, _, by omega, by go_num, HE, by first | rfl | exact World.drewN_drewN _ _ _⟩
        case measure => simp [intOf]; omega
    · obtain rfl : m = q + 1 := by omega
      have HE : Hid (compF L = L) := Lib.hid (by have h1 := hK.out; rw [HTL.out] at h1; exact h1)
      go_wp2
      go_ret
      have hS := HST.out q z (by omega)
      have h1 : vs.take (q + 1) = vs := List.take_of_length_le (by rw [HVL.out]; exact Nat.le_refl _)
      rw [HTL.out, h1] at hS
      refine ⟨by rw [HE.out, HL.out]; rfl, hS.grown, vs, ?_⟩
      rw [HE.out]
      exact ⟨hS.len, List.Sublist.refl _, hS.done, hS.rows⟩
end Go.Proofs.YtmepndnckcpgjaaGreat

namespace Go.Proofs.YtmepndnckcpgjaaGreat
open Go.RowKit
theorem range_get {α : Type} (l : List α) (d : α) : (List.range l.length).map (fun j => l.getD j d) = l := by
  apply List.ext_getElem
  · simp
  · intro i h1 h2
    simp [List.getD_eq_getElem?_getD, h2]
theorem map_get {α : Type} (p : List Nat) (f : Nat → α) (d : α) {i : Nat} (h : i < p.length) : (p.map f).getD i d = f (p.getD i 0) := by
  simp [List.getD_eq_getElem?_getD, h]
theorem NewR.perm {w : World} {B : Nat} {vs : List Value} {T : List (List Int)} (h : NewR w B vs T) {p : List Nat} (hp : p.Perm (List.range T.length)) : NewR w B (p.map fun j => vs.getD j (.int .i64 0)) (p.map fun j => T.getD j []) := by
  have hl : p.length = T.length := by rw [hp.length_eq, List.length_range]
  have h1 : (p.map fun j => vs.getD j (.int .i64 0)).Perm vs := by
    have := hp.map fun j => vs.getD j (.int .i64 0)
    rw [← h.1, range_get] at this
    exact this
  refine ⟨by simp, ((h1.map blkV).nodup_iff).2 h.2.1, fun j hj => ?_⟩
  rw [List.length_map] at hj
  rw [map_get p _ _ hj, map_get p _ _ hj]
  refine h.2.2 _ ?_
  have : p.getD j 0 ∈ List.range T.length := hp.mem_iff.1 (by rw [List.getD_eq_getElem?_getD, List.getElem?_eq_getElem hj]; exact List.getElem_mem hj)
  exact List.mem_range.1 this
theorem NewR.sub {w : World} {B : Nat} {vs V : List Value} {T K : List (List Int)} (h : NewR w B vs T) (hs : V.Sublist vs) (hl : V.length = K.length) (hr : ∀ i, i < V.length → OwnRow w B (V.getD i (.int .i64 0)) (K.getD i [])) : NewR w B V K :=
  ⟨hl, h.2.1.sublist (hs.map blkV), fun j hj => hr j (by omega)⟩
theorem OwnRow.far {w w' : World} {B g : Nat} {v : Value} {l : List Int} (h : OwnRow w B v l) (hne : blkV v ≠ g) (k : w.grownBy w' (some g)) : OwnRow w' B v l := by
  obtain ⟨b, h1, rfl, h2, h4⟩ := h
  exact ⟨b, h1, rfl, (k.block b h2.lt fun e => hne (by injection e)).trans h2, h4⟩
theorem OwnRow.lie {w : World} {B g : Nat} {v : Value} {l : List Int} (h : OwnRow w B v l) (hne : blkV v ≠ g) : LieW w g v l := by
  obtain ⟨b, h1, rfl, h2, h4⟩ := h
  exact ⟨_, _, rfl, Nat.le_refl _, fun e => (by cases e), h2.ints (by omega), fun a e => by cases e; exact ⟨hne, h2.lt⟩⟩
/-- A list of new rows. -/
def Crn (w : World) (B : Nat) (A : Option Addr) (c : Nat) (T : List (List Int)) : Prop :=
  T.length ≤ c ∧ (A = none → T.length = 0 ∧ c = 0) ∧ ∃ V, NewR w B V T ∧ (0 < T.length → ∃ g, A = some ⟨g, 0, none⟩ ∧ B ≤ g ∧ ∀ j, j < T.length → w.cell? ⟨g, j, none⟩ = some (V.getD j (.int .i64 0)) ∧ blkV (V.getD j (.int .i64 0)) ≠ g)
theorem crn_nil (w : World) (B : Nat) : Crn w B none 0 [] := ⟨Nat.le_refl _, fun _ => ⟨rfl, rfl⟩, [], NewR.nil w B, fun h => by cases h⟩
theorem gathered {w : World} {B : Nat} {v : Value} {vs : List Value} {T : List (List Int)} (h : RowV w B v vs) (hn : NewR w B vs T) (hT : 0 < T.length) : ∃ g cap, v = .slice (some ⟨g, 0, none⟩) T.length cap ∧ T.length ≤ cap ∧ B ≤ g ∧ g < w.heap.size ∧ (∃ cur, w.heap[g]? = some (.cells cur 23 (0, 0))) ∧ CellsV w g vs ∧ ∀ j, j < T.length → blkV (vs.getD j (.int .i64 0)) ≠ g := by
  rcases h.2 with ⟨e, hn0⟩ | ⟨g, cap, cur, e, hb, hh, hc, hm, hsz, ht⟩
  · rw [hn.1] at hn0; omega
  · rw [hn.1] at e hc
    refine ⟨g, cap, e, hc, hb, lt_of_block hh, ⟨cur, hh⟩, fun j hj => ⟨?_, by simp [World.frozen?, hh]⟩, fun j hj hbe => ?_⟩
    · rw [cell_of_row w g j cur 23 (0, 0) hh]
      rw [Nat.mul_one] at ht
      have h3 : (cur.toList.take vs.length)[j]? = cur.toList[j]? := List.getElem?_take_of_lt hj
      rw [ht] at h3
      rw [← Array.getElem?_toList, ← h3, List.getElem?_eq_getElem hj]
      simp [List.getD_eq_getElem?_getD, hj]
    · obtain ⟨b, _, ev, ho, _⟩ := hn.2.2 j hj
      rw [ev] at hbe
      have hbe : b = g := hbe
      subst hbe
      unfold Own at ho
      rw [hh] at ho
      injection ho with ho
      injection ho with _ h6 _
      exact absurd h6 (by decide)
theorem gsL_pos (n : Nat) (xs : List Int) : 0 < (gsL n xs).length := by
  rw [gsL_len]
  exact List.length_pos_of_mem (ord_mem.2 ⟨by simp, List.nodup_range, fun x hx => List.mem_range.1 hx⟩ : List.range n ∈ ordF n n [])
theorem one_box (w : World) (z u : Value) (t : TypeId) : (w.alloc (.cells #[z] t)).cell? ⟨w.heap.size, 0, none⟩ = some z ∧ (w.alloc (.cells #[z] t)).frozen? ⟨w.heap.size, 0, none⟩ = false ∧
    ∃ W, (w.alloc (.cells #[z] t)).setCell ⟨w.heap.size, 0, none⟩ u = W ∧ Box W w.heap.size u t ∧ Below w.heap.size w W ∧ W.heap.size = w.heap.size + 1 := by
  have a1 : (w.alloc (.cells #[z] t)).heap[w.heap.size]? = some (.cells #[z] t (0, 0)) := heap_alloc_new w _
  have s1 : (w.alloc (.cells #[z] t)).heap.size = w.heap.size + 1 := by simp
  have c1 := (Box.new w z t).cell
  obtain ⟨w1, hw1⟩ : ∃ y, y = w.alloc (.cells #[z] t) := ⟨_, rfl⟩
  have b1 : Below w.heap.size w w1 := by rw [hw1]; exact below_alloc w _
  rw [← hw1] at a1 s1 c1 ⊢
  refine ⟨c1, by simp [World.frozen?, a1], _, rfl, ?_, b1.setCell (Nat.le_refl _) _, by rw [← s1]; simp [World.setCell]⟩
  unfold Box
  simp [World.setCell, Array.getElem?_modify, a1]
theorem Box.far5 {w w' : World} {q g : Nat} {v : Value} {t : TypeId} (h : Box w q v t) (hne : g ≠ q) (k : w.grownBy w' (some g)) : Box w' q v t := (k.block q (lt_of_block h) fun e => hne (by injection e with e; exact e.symm)).trans h
theorem oneCell_row {w : World} {B : Nat} {v : Value} {l : List Int} (h : OwnRow w B v l) : v.oneCell' = true := by
  obtain ⟨b, _, rfl, _⟩ := h
  rfl
set_option maxRecDepth 100000 in
set_option maxHeartbeats 8000000 in
/-- share.Corners -/
theorem f41_any (A : Option Addr) (n : Int) (len c : Nat) (xs : List Int) (w : World) (hs : Ints w A len xs) :
    Calls Tryz.prog 9 #[.int .i64 n, .slice A len c] w fun e w' => ∃ A' c', e = .returned (.tuple #[.slice A' (cornersL n xs).length c', .int .i64 (asked n xs)]) ∧ Crn w' w.heap.size A' c' (cornersL n xs) ∧ Below w.heap.size w w' := by
  by_cases h : asked n xs = 0
  · obtain ⟨hok, hT⟩ := asked_zero h
    obtain ⟨n', rfl, h1, h6, hln, hbd, h0⟩ := costOk_facts hok
    have HN : Hid (asked (n' : Int) xs = 0) := Lib.hid h
    have HCL : Hid (cornersL (n' : Int) xs = putAll (gsL n' xs)) := Lib.hid (by unfold cornersL; rw [if_pos h, Int.toNat_natCast]; rfl)
    have k44 := Lib.hid (f44_yes A n' len c xs w hs h)
    have HL : Hid (len = 2 ^ n') := by rw [← hs.len]; exact hln
    have HBD := Lib.hid hbd
    have hmf : ∀ (fn : Fn) (first cap : Array Value) (w : World), (Instr.makeFunc fn first cap).run Tryz.prog w = .ok (.func fn first cap) w := fun _ _ _ _ => rfl
    clear h hok hT hln h0 hs hbd
    go_enter Tryz.func9, Tryz.ntmps9
    go_wp2_with fail
    refine k44.out.mono ?_
    rintro e w1 ⟨p, rfl, hc, hi, hb, _⟩
    obtain ⟨hz1, hz2, W, hW, hbx, hbW, hsW⟩ := one_box w1 (.pointer none) (.pointer (some ⟨p, 0, none⟩)) 46
    have HC := Lib.hid hc
    have HI := Lib.hid hi
    have HB1 := Lib.hid hb
    have HBX := Lib.hid hbx
    have HBW := Lib.hid hbW
    have HSW := Lib.hid hsW
    have hcC := (hbx.below (below_alloc W (.cells #[.slice none 0 0] 29))).cell
    have HB2 : Hid (Below W.heap.size W (W.alloc (.cells #[.slice none 0 0] 29))) := Lib.hid (below_alloc W _)
    have K74 := Lib.hid (f74_any W W.heap.size w1.heap.size p n' len c A xs ⟨hbx.cell, hc.below hbW, hi.below hbW, h6, HL.out, HBD.out⟩ rfl (W.alloc (.cells #[.slice none 0 0] 29)) HB2.out ⟨.slice none 0 0, [], Box.new W _ _, RowV.nil _ _, Rows3.nil _, NewR.nil _ _⟩)
    have HB3 : Hid (Below w.heap.size w W) := Lib.hid (below_step HB1.out HBW.out)
    have hsz := HB3.out.size
    clear hc hi hb hbx hbW hsW
    go_wp2_with fail
    refine K74.out.mono ?_
    rintro e w4 ⟨rfl, ⟨v4, vs4, hb4, hr4, hrs4, hn4⟩, hk4⟩
    obtain ⟨g, cap, rfl, hcap, hBg, hgl, ⟨cur, hg22⟩, hcv, hne⟩ := gathered hr4 hn4 (gsL_pos n' xs)
    have HGL : Hid ((gsL n' xs).length ≤ 46656) := Lib.hid (by rw [gsL_len]; exact ord_many h6)
    have hpos := gsL_pos n' xs
    have HMEM : Hid (∀ p : List Nat, p.Perm (List.range (gsL n' xs).length) → (p.map fun j => (gsL n' xs).getD j []).Pairwise (fun a b => ¬ cmpL b a < 0) → compF (p.map fun j => (gsL n' xs).getD j []) = putAll (gsL n' xs)) := Lib.hid fun p hp hs => by
      refine comp_put hs fun y => ?_
      have := hp.map fun j => (gsL n' xs).getD j []
      rw [range_get] at this
      exact this.mem_iff
    generalize gsL n' xs = T at *
    have hb4c := hb4.cell
    have hM6 := HGL.out
    have K76 := Lib.hid (f76_rows g T.length cap vs4 T w4 hpos hn4.1 rfl (by omega) (fun j hj => oneCell_row (hn4.2.2 j hj)) hcv hgl (fun j hj => ((hn4.2.2 j hj).lie (hne j hj)).lies))
    have HN4 := Lib.hid hn4
    have HNE := Lib.hid hne
    have HB4 : Hid (Below w.heap.size w w4) := Lib.hid (HB3.out.trans (hk4.below HB2.out HB2.out.size |>.mono hsz))
    have HBX4 := Lib.hid hb4
    have HGB : Hid (g ≠ W.heap.size) := Lib.hid fun e => by
      subst e
      unfold Box at hb4
      rw [hg22] at hb4
      injection hb4 with hb4
      injection hb4 with _ h6 _
      exact absurd h6 (by decide)
    clear hb4 hr4 hrs4 hn4 hk4 hcv hne hg22
    go_wp2_with fail
    refine K76.out.mono ?_
    rintro e w5 ⟨rfl, pp, hperm, hsort, hcells, _, _, hgr⟩
    have hb5c := (HBX4.out.far5 HGB.out hgr).cell
    have hpl : pp.length = T.length := by rw [hperm.length_eq, List.length_range]
    have hplt : ∀ j, j < T.length → pp.getD j 0 < T.length := fun j hj => by
      have : pp.getD j 0 ∈ List.range T.length := hperm.mem_iff.1 (by rw [List.getD_eq_getElem?_getD, List.getElem?_eq_getElem (show j < pp.length by omega)]; exact List.getElem_mem _)
      exact List.mem_range.1 this
    have HN5 : Hid (NewR w5 W.heap.size (pp.map fun j => vs4.getD j (.int .i64 0)) (pp.map fun j => T.getD j [])) := Lib.hid (by
      have h := HN4.out.perm hperm
      refine ⟨h.1, h.2.1, fun j hj => (h.2.2 j hj).far ?_ hgr⟩
      rw [List.length_map, hpl] at hj
      rw [map_get pp _ _ (by omega)]
      exact HNE.out _ (hplt j hj))
    have K79 := Lib.hid (f79_rows g T.length cap (pp.map fun j => vs4.getD j (.int .i64 0)) (pp.map fun j => T.getD j []) w5 (fun v l => OwnRow w5 W.heap.size v l ∧ blkV v ≠ g) (fun v l h => h.1.lie h.2) hpos (by rw [List.length_map, hpl]) (by rw [List.length_map, hpl]) (by omega) hcap hcells (fun j hj => ⟨HN5.out.2.2 j (by rw [List.length_map, hpl]; exact hj), by
      rw [map_get pp _ _ (by omega)]
      exact HNE.out _ (hplt j hj)⟩))
    rw [HMEM.out pp hperm hsort] at K79
    have HB5 : Hid (Below w.heap.size w w5) := Lib.hid (HB4.out.grown hgr HB4.out.size (fun k e => by injection e with e; omega))
    have HPP : Hid (T.length = pp.length) := Lib.hid hpl.symm
    clear hperm hsort hcells hgr hpl hplt
    go_wp2_with fail
    refine K79.out.mono ?_
    rintro e w6 ⟨rfl, hg6, V, hV1, hV2, hV3, hV4⟩
    have HB6 : Hid (Below w.heap.size w w6) := Lib.hid (HB5.out.grown hg6 HB5.out.size (fun k e => by injection e with e; omega))
    have HV : Hid (NewR w6 W.heap.size V (putAll T)) := Lib.hid (by
      have h := NewR.sub HN5.out hV2 hV1 (fun i hi => (hV4 i hi).1)
      exact ⟨h.1, h.2.1, fun j hj => (h.2.2 j hj).far (hV4 j (by omega)).2 hg6⟩)
    have HC6 : Hid (∀ j, j < (putAll T).length → w6.cell? ⟨g, j, none⟩ = some (V.getD j (.int .i64 0)) ∧ blkV (V.getD j (.int .i64 0)) ≠ g) := Lib.hid fun j hj => ⟨hV3 j (by omega), (hV4 j (by omega)).2⟩
    have HPL : Hid ((putAll T).length ≤ T.length) := Lib.hid (by rw [← hV1]; have := hV2.length_le; rw [List.length_map, ← HPP.out] at this; exact this)
    clear hg6 hV1 hV2 hV3 hV4
    go_wp2
    go_ret2
    have hle := HPL.out
    refine ⟨some ⟨g, 0, none⟩, cap, by rw [HCL.out, HN.out]; rfl, ?_, HB6.out⟩
    rw [HCL.out]
    refine ⟨by omega, fun e => (by cases e), V, ⟨HV.out.1, HV.out.2.1, fun j hj => ?_⟩, fun _ => ⟨g, rfl, by omega, HC6.out⟩⟩
    obtain ⟨b, p1, p2, p3, p4⟩ := HV.out.2.2 j hj
    exact ⟨b, by omega, p2, p3, p4⟩
  · have e1 : Hid (cornersL n xs = []) := by unfold cornersL; rw [if_neg h]; rfl
    have k44 := Lib.hid (f44_no A n len c xs w hs h)
    have hq : (asked n xs != 0) = true := by simpa using h
    clear h
    go_enter Tryz.func9, Tryz.ntmps9
    go_wp2_with fail
    refine k44.out.mono ?_
    rintro e w1 ⟨rfl, hb⟩
    obtain ⟨hz1, hz2, W, hW, hbx, hbW, hsW⟩ := one_box w1 (.pointer none) (.pointer none) 46
    have HB := Lib.hid (below_step hb hbW)
    clear hb hbx hbW hsW
    go_wp2
    go_ret2
    exact ⟨none, 0, by rw [e1.out]; rfl, by rw [e1.out]; exact crn_nil _ _, HB.out⟩
end Go.Proofs.YtmepndnckcpgjaaGreat
