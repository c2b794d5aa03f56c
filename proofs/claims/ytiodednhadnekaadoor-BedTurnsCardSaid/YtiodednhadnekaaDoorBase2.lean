/- Words for beds in memory. No condition. -/
import Derived.Test.YtiodednhadnekaaDoorBase
import Derived.Deep.RegionHeld3
import Derived.Deep.AppendLies
import Derived.Deep.RegionWith
import Derived.Deep.DrawnRows
import Derived.Deep.Matrix
import Derived.OpenShut
namespace Go.Proofs.YtiodednhadnekaaDoor
open Go.RowKit Go.Deep
theorem bcell {W w1 : World} (hb : Below W.heap.size W w1) : (∀ b o, b < W.heap.size → w1.cell? ⟨b, o, none⟩ = W.cell? ⟨b, o, none⟩) ∧ (∀ b o, b < W.heap.size → w1.frozen? ⟨b, o, none⟩ = W.frozen? ⟨b, o, none⟩) :=
  ⟨fun b o h => hb.cell (p := ⟨b, o, none⟩) h, fun b o h => hb.frozen (p := ⟨b, o, none⟩) h⟩
theorem below_alloc2 (w : World) (o p : Obj) : Below w.heap.size w ((w.alloc o).alloc p) := (below_alloc w o).alloc (by simp) p
theorem frozen_new (w : World) (cs : Array Value) (t : TypeId) (i : Nat) : (w.alloc (.cells cs t)).frozen? ⟨w.heap.size, i, none⟩ = false := by
  have h : (w.alloc (.cells cs t)).heap[w.heap.size]? = some (.cells cs t (0, 0)) := heap_alloc_new w _
  generalize w.alloc (.cells cs t) = w' at h ⊢
  generalize w.heap.size = g at h ⊢
  simp [World.frozen?, h]
theorem grown_below {w w' : World} (h : Below w.heap.size w w') (p : Option Nat) : w.grownBy w' p := ⟨h.os, h.tape, h.output, h.size, fun i hi _ => h.block i hi⟩
/-- The slice value v owns a row of the call's own whose elements are the slices vs. -/
def RowV (w : World) (base : Nat) (v : Value) (vs : List Value) : Prop := w.ownsRow base 29 1 v vs.length vs
section
variable {w w' : World} {base : Nat} {v : Value} {vs : List Value}
theorem RowV.nil (w : World) (base : Nat) : RowV w base (.slice none 0 0) [] := World.ownsRow_nil w base 29 1
theorem RowV.alloc (h : RowV w base v vs) (o : Obj) : RowV (w.alloc o) base v vs := World.ownsRow.alloc h o
theorem RowV.drewN (h : RowV w base v vs) (m : Nat) : RowV (w.drewN m) base v vs := h
theorem RowV.drew (h : RowV w base v vs) : RowV w.drew base v vs := h
theorem RowV.below (h : RowV w base v vs) (hb : Below w.heap.size w w') : RowV w' base v vs :=
  World.ownsRow.kept h (grown_below hb none) (by cases hv : v.ownBlock <;> simp)
theorem RowV.form (h : RowV w base v vs) : ∃ A c, v = .slice A vs.length c ∧ (0 < vs.length → ∃ g, A = some ⟨g, 0, none⟩ ∧ ∀ j, j < vs.length → w.cell? ⟨g, j, none⟩ = vs[j]?) := by
  rcases h.2 with ⟨e, hn⟩ | ⟨g, cap, cur, e, hb, hh, hc, hm, hsz, ht⟩
  · exact ⟨none, 0, by rw [e, hn], fun h => absurd hn (by omega)⟩
  · refine ⟨_, cap, e, fun hp => ⟨g, rfl, fun j hj => ?_⟩⟩
    rw [cell_of_row w g j cur 29 (0, 0) hh]
    rw [Nat.mul_one] at ht
    have h3 : (cur.toList.take vs.length)[j]? = cur.toList[j]? := List.getElem?_take_of_lt hj
    rw [ht] at h3
    rw [← Array.getElem?_toList, ← h3]
theorem wpList_pushV {ops : Array Oper} {rest : List Oper} {o : Oper} {a : Act} {Q : Exit → Act → World → Prop} (hgd : o.guard = none) (s x : Operand)
    (ho : o.op = .call { callee := .builtin .append, args := #[s, x], argTypes := #[22, 22] })
    (base : Nat) (v : Value) (vs : List Value) (hs : a.eval s = v) (hrow : RowV w base v vs) (g c : Nat) (B : Option Addr) (bn bc : Nat) (hx : a.eval x = .slice (some ⟨g, 0, none⟩) 1 c)
    (hc : w.cell? ⟨g, 0, none⟩ = some (.slice B bn bc)) (hl : vs.length ≤ 1000000) (hb : base ≤ w.heap.size)
    (h : ∀ v' w', RowV w' base v' (vs ++ [.slice B bn bc]) → w.grownBy w' v.ownBlock → (v'.ownBlock = v.ownBlock ∨ v'.ownBlock = some w.heap.size) → wpList Tryd.prog ops Q rest (a.put o.dst v') w') : wpList Tryd.prog ops Q (o :: rest) a w := by
  obtain ⟨i0, hi, hz0, hz1, hz2⟩ := info_parts (show (Tryd.prog.info? 29).map (fun i => (i.zero, i.size, i.bytes)) = some (some (.slice none 0 0), 1, 24) from by kernel_rfl)
  refine wpList_append_lies w hgd s x 22 ho base 29 i0 (.slice none 0 0) 1 24 Tryd.underlying22 hi hz0 hz1 hz2 rfl (by decide) v vs.length vs hs hrow ⟨g, 0, none⟩ 1 c [.slice B bn bc] hx rfl ?_ ?_ (by omega) ?_ ?_ hb _ rfl ?_
  · intro j u hj
    match j, hj with
    | 0, hj => simp at hj; subst hj; simpa [Addr.add] using hc
  · intro u hu; simp at hu; subst hu; rfl
  · unfold maxLen; omega
  · omega
  · intro g' cap w' h1 h2 h3 _
    refine h _ w' (by unfold RowV; simpa using h1) h2 ?_
    rcases h3 with h3 | h3
    · exact .inl h3.symm
    · exact .inr (by rw [← h3]; rfl)
theorem step_pushV {ops : Array Oper} {o : Oper} {a : Act} {K : Act → World → Prop} {Q : Exit → Act → World → Prop} {E : Prop} (hgd : o.guard = none) (s x : Operand)
    (ho : o.op = .call { callee := .builtin .append, args := #[s, x], argTypes := #[22, 22] })
    (base : Nat) (v : Value) (vs : List Value) (hs : a.eval s = v) (hrow : RowV w base v vs) (g c : Nat) (B : Option Addr) (bn bc : Nat) (hx : a.eval x = .slice (some ⟨g, 0, none⟩) 1 c)
    (hc : w.cell? ⟨g, 0, none⟩ = some (.slice B bn bc)) (hl : vs.length ≤ 1000000) (hb : base ≤ w.heap.size)
    (h : ∀ v' w', RowV w' base v' (vs ++ [.slice B bn bc]) → w.grownBy w' v.ownBlock → (v'.ownBlock = v.ownBlock ∨ v'.ownBlock = some w.heap.size) → K (a.put o.dst v') w') : if Region.wanted o (yielded ops a.tmps) = true then Oper.wp Tryd.prog o a w K Q else E := by
  have hw : Region.wanted o (yielded ops a.tmps) = true := by simp [Region.wanted, hgd]
  rw [if_pos hw]
  obtain ⟨i0, hi, hz0, hz1, hz2⟩ := info_parts (show (Tryd.prog.info? 29).map (fun i => (i.zero, i.size, i.bytes)) = some (some (.slice none 0 0), 1, 24) from by kernel_rfl)
  refine wp_append_lies w s x 22 ho base 29 i0 (.slice none 0 0) 1 24 Tryd.underlying22 hi hz0 hz1 hz2 rfl (by decide) v vs.length vs hs hrow ⟨g, 0, none⟩ 1 c [.slice B bn bc] hx rfl ?_ ?_ (by omega) ?_ ?_ hb _ rfl ?_
  · intro j u hj
    match j, hj with
    | 0, hj => simp at hj; subst hj; simpa [Addr.add] using hc
  · intro u hu; simp at hu; subst hu; rfl
  · unfold maxLen; omega
  · omega
  · intro g' cap w' h1 h2 h3 _
    refine h _ w' (by unfold RowV; simpa using h1) h2 ?_
    rcases h3 with h3 | h3
    · exact .inl h3.symm
    · exact .inr (by rw [← h3]; rfl)
/-- Two rows that do not lie in one block. -/
def Apart (v u : Value) : Prop := ∀ b, v.ownBlock = some b → u.ownBlock ≠ some b
theorem Apart.symm {v u : Value} (h : Apart v u) : Apart u v := fun b h1 h2 => h b h2 h1
theorem Apart.nil (u : Value) : Apart (.slice none 0 0) u := fun b h => by simp [Value.ownBlock] at h
theorem Apart.push {u v' : Value} {us : List Value} (h : Apart v u) (hu : RowV w base u us) (hv : v'.ownBlock = v.ownBlock ∨ v'.ownBlock = some w.heap.size) : Apart v' u := fun b hb => by
  rcases hv with hv | hv
  · exact h b (by rw [← hv]; exact hb)
  · intro e
    have := (World.ownsRow.lt hu b e).2
    rw [hv] at hb
    injection hb with hb
    omega
theorem RowV.other {u : Value} {us : List Value} (hu : RowV w base u us) (hg : w.grownBy w' v.ownBlock) (h : Apart v u) : RowV w' base u us :=
  World.ownsRow.kept hu hg (by
    cases hb : u.ownBlock with
    | none => exact .inl rfl
    | some b => refine .inr ?_; intro e; exact h b e.symm hb)
/-- A block of ints is none of slices. -/
theorem Own.apart {g : Nat} {xs : List Int} (h : Own w g xs) (hr : RowV w base v vs) : some g ≠ v.ownBlock := by
  rcases hr.2 with ⟨e, hn⟩ | ⟨g', cap, cur, e, hb, hh, _⟩
  · rw [e]; simp [Value.ownBlock]
  · intro he
    have hg : g' = g := by rw [e] at he; simpa [Value.ownBlock] using he.symm
    subst hg
    unfold Own at h
    rw [hh] at h
    injection h with h
    injection h with _ h
    exact absurd h (by decide)
theorem Own.grown {g : Nat} {xs : List Int} (h : Own w g xs) (hr : RowV w base v vs) (hg : w.grownBy w' v.ownBlock) : Own w' g xs := (hg.block g h.lt (h.apart hr)).trans h
end
theorem below_grownV {B : Nat} {a w w' : World} {v : Value} (h : Below B a w) (hg : w.grownBy w' v.ownBlock) (hb : B ≤ w.heap.size) {base : Nat} {vs : List Value} (hr : RowV w base v vs) (hB : B ≤ base) : Below B a w' :=
  h.grown hg hb fun k hk => Nat.le_trans hB (World.ownsRow.lt hr k hk).1
theorem Row.below {w w' : World} {base : Nat} {v : Value} {xs : List Int} (h : Row w base v xs) (hb : Below w.heap.size w w') : Row w' base v xs :=
  World.ownsRow.kept h (grown_below hb none) (by cases hv : v.ownBlock <;> simp)
/-- A row of ints reads as a list and is no longer than its capacity. -/
theorem Row.form3 {w : World} {base : Nat} {v : Value} {xs : List Int} (h : Row w base v xs) (hs : xs.length ≤ 17592186044415) : ∃ A c, v = .slice A xs.length c ∧ Ints w A xs.length xs ∧ xs.length ≤ c := by
  obtain ⟨A, c, e, hi⟩ := h.form
  refine ⟨A, c, e, hi xs.length (Nat.le_refl _) hs, ?_⟩
  rcases h.2 with ⟨e2, hn⟩ | ⟨g, cap, cur, e2, hb, hh, hc, _⟩
  · omega
  · rw [e] at e2; injection e2 with _ _ h3; rw [h3]; exact hc
theorem grown_setC (w : World) (a : Addr) (u : Value) : w.grownBy (w.setCell a u) (some a.block) :=
  ⟨rfl, rfl, rfl, by simp, fun k _ hk => heap_setCell_other w a k u (fun e => hk (by rw [e]))⟩
/-- A row of ints lies in no block of slices. -/
theorem Row.otherV {w w' : World} {base base' : Nat} {v u : Value} {xs : List Int} {us : List Value} (h : Row w base v xs) (hu : RowV w base' u us) (hg : w.grownBy w' u.ownBlock) : Row w' base v xs :=
  World.ownsRow.kept h hg (by
    rcases h.2 with ⟨e, hn⟩ | ⟨g, cap, cur, e, hb, hh, _⟩
    · left; rw [e]; rfl
    · right
      intro hx
      rcases hu.2 with ⟨e2, hn2⟩ | ⟨g', cap', cur', e2, hb', hh', _⟩
      · rw [e, e2] at hx; simp [Value.ownBlock] at hx
      · rw [e, e2] at hx
        have hgg : g = g' := by simpa [Value.ownBlock] using hx
        subst hgg
        rw [hh] at hh'
        injection hh' with hh'
        injection hh' with _ hh'
        exact absurd hh' (by decide))
theorem RowV.none_ {w w' : World} {base : Nat} {v : Value} {vs : List Value} (h : RowV w base v vs) (hg : w.grownBy w' none) : RowV w' base v vs :=
  World.ownsRow.kept h hg (by cases hv : v.ownBlock <;> simp)
theorem Row.none_ {w w' : World} {base : Nat} {v : Value} {vs : List Int} (h : Row w base v vs) (hg : w.grownBy w' none) : Row w' base v vs :=
  World.ownsRow.kept h hg (by cases hv : v.ownBlock <;> simp)
/-- A slice of slices of which the lengths are told. -/
def Lens (w : World) (A : Option Addr) (n : Nat) (ls : List Nat) : Prop :=
  ls.length = n ∧ n ≤ 9223372036854775807 ∧ (0 < n → ∃ b off, A = some ⟨b, off, none⟩ ∧ ∀ j, j < n → ∃ B c, w.cell? ⟨b, off + j, none⟩ = some (.slice B (ls.getD j 0) c)) ∧ ∀ j, ls.getD j 0 ≤ 9223372036854775807
theorem ints_of_row {w : World} {a : Option Addr} {len cap : Nat} {zs : List Int}
    (h : (a = none ∧ len = 0 ∧ cap = 0 ∧ zs = []) ∨ ∃ x, a = some x ∧ len ≤ cap ∧ cap ≤ maxLen ∧ zs.length = cap ∧ (∀ i, i < zs.length → w.cell? (x.add i) = some (.int .i64 (zs.getD i 0))) ∧ ∀ n ∈ zs, (Lit.int .i64 n).wf = true)
    (hl : len ≤ 17592186044415) : Ints w a len (zs.take len) := by
  rcases h with ⟨rfl, rfl, rfl, rfl⟩ | ⟨x, rfl, h1, h2, h3, h4, h5⟩
  · exact Ints.nil _ _
  · refine ⟨by rw [List.length_take]; omega, hl, fun hp => ?_⟩
    obtain ⟨b, off, rfl, hc⟩ := Go.ints_at h4 (by omega)
    refine ⟨b, off, rfl, fun j hj => ?_⟩
    rw [hc j (by omega)]
    simp [List.getD_eq_getElem?_getD, hj]
theorem len_of_row {w : World} {a : Option Addr} {len cap : Nat} {zs : List Int}
    (h : (a = none ∧ len = 0 ∧ cap = 0 ∧ zs = []) ∨ ∃ x, a = some x ∧ len ≤ cap ∧ cap ≤ maxLen ∧ zs.length = cap ∧ (∀ i, i < zs.length → w.cell? (x.add i) = some (.int .i64 (zs.getD i 0))) ∧ ∀ n ∈ zs, (Lit.int .i64 n).wf = true) :
    len ≤ 9223372036854775807 := by
  rcases h with ⟨rfl, rfl, rfl, rfl⟩ | ⟨x, rfl, h1, h2, _⟩
  · omega
  · unfold maxLen at h2; omega
/-- A slice that came in, as a law sees it: known as a list if it is short enough. -/
def Came (w : World) (A : Option Addr) (len : Nat) (xs : List Int) : Prop := len ≤ 9223372036854775807 ∧ (len ≤ 2000 → Ints w A len xs)
theorem came_of_row {w : World} {a : Option Addr} {len cap : Nat} {zs : List Int}
    (h : (a = none ∧ len = 0 ∧ cap = 0 ∧ zs = []) ∨ ∃ x, a = some x ∧ len ≤ cap ∧ cap ≤ maxLen ∧ zs.length = cap ∧ (∀ i, i < zs.length → w.cell? (x.add i) = some (.int .i64 (zs.getD i 0))) ∧ ∀ n ∈ zs, (Lit.int .i64 n).wf = true) :
    Came w a len (zs.take len) := ⟨len_of_row h, fun hl => ints_of_row h (by omega)⟩
theorem Came.len {w : World} {A : Option Addr} {len : Nat} {xs : List Int} (h : Came w A len xs) : len ≤ 9223372036854775807 := h.1

theorem ints_of_cells {w : World} {a : Option Addr} {l c : Nat} {z : List Int} (h1 : l ≤ c) (h2 : z.length = c) (h3 : a = none → c = 0) (h4 : ∀ a', a = some a' → ∀ i, i < c → w.cell? (a'.add i) = some (.int .i64 (z.getD i 0))) (hl : l ≤ 100) :
    Ints w a l (z.take l) := by
  refine ⟨by rw [List.length_take]; omega, by omega, fun hp => ?_⟩
  cases a with
  | none => have := h3 rfl; omega
  | some x =>
    obtain ⟨b, off, rfl, hc⟩ := Go.ints_at (fun i hi => h4 x rfl i (by omega)) (by omega : 0 < z.length)
    refine ⟨b, off, rfl, fun j hj => ?_⟩
    rw [hc j (by omega)]
    simp [List.getD_eq_getElem?_getD, hj]

/-- A slice of slices of ints that reads as a list of lists; no slice is longer than its capacity, and one that is nil is empty. -/
def Beds (w : World) (A : Option Addr) (n c : Nat) (b : List (List Int)) : Prop :=
  b.length = n ∧ n ≤ 1000000 ∧ n ≤ c ∧ (A = none → n = 0 ∧ c = 0) ∧ (0 < n → ∃ g o, A = some ⟨g, o, none⟩ ∧ ∀ j, j < n → ∃ B d, w.cell? ⟨g, o + j, none⟩ = some (.slice B (b.getD j []).length d) ∧ (b.getD j []).length ≤ d ∧ (B = none → (b.getD j []).length = 0 ∧ d = 0) ∧ Ints w B (b.getD j []).length (b.getD j []))
section
variable {w w' : World} {A : Option Addr} {n c : Nat} {b : List (List Int)}
theorem Beds.below (h : Beds w A n c b) (hb : Below w.heap.size w w') : Beds w' A n c b :=
  ⟨h.1, h.2.1, h.2.2.1, h.2.2.2.1, fun hn => by
    obtain ⟨g, o, e, hc⟩ := h.2.2.2.2 hn
    exact ⟨g, o, e, fun j hj => by
      obtain ⟨B, d, h1, h2, h3, h4⟩ := hc j hj
      exact ⟨B, d, (hb.cell (lt_of_cell h1)).trans h1, h2, h3, h4.below hb⟩⟩⟩
theorem Beds.drewN (h : Beds w A n c b) (m : Nat) : Beds (w.drewN m) A n c b := h
theorem Beds.len (h : Beds w A n c b) : b.length = n := h.1
theorem Beds.small (h : Beds w A n c b) : n ≤ 1000000 := h.2.1
theorem Beds.cap (h : Beds w A n c b) : n ≤ c := h.2.2.1
theorem Beds.at_ (h : Beds w A n c b) {k : Nat} (hk : k < n) : ∃ g o, A = some ⟨g, o, none⟩ ∧ ∃ B d, w.cell? ⟨g, o + k, none⟩ = some (.slice B (b.getD k []).length d) ∧ (b.getD k []).length ≤ d ∧ (B = none → (b.getD k []).length = 0 ∧ d = 0) ∧ Ints w B (b.getD k []).length (b.getD k []) := by
  obtain ⟨g, o, e, hc⟩ := h.2.2.2.2 (by omega)
  exact ⟨g, o, e, hc k hk⟩
theorem Beds.nil (w : World) : Beds w none 0 0 [] := ⟨rfl, by omega, by omega, fun _ => ⟨rfl, rfl⟩, fun h => absurd h (by omega)⟩
end
/-- A bed that came in, as a law sees it. -/
def CameB (w : World) (A : Option Addr) (n c : Nat) (b : List (List Int)) : Prop :=
  Lens w A n (b.map List.length) ∧ (n ≤ 300 → (∀ j, (b.getD j []).length ≤ 100) → Beds w A n c b)
theorem cameB_of {w : World} {a1 : Option Addr} {len1 cap1 : Nat} {X : Prop} {Y : Addr → Nat → Nat → (Nat → Option Addr) → (Nat → Nat) → (Nat → List Int) → Prop}
    (h : ([Value.slice a1 len1 cap1] = [.slice none 0 0] ∧ X) ∨ ∃ (a : Addr) (len cap : Nat) (A : Nat → Option Addr) (L C : Nat → Nat) (Z : Nat → List Int), [Value.slice a1 len1 cap1] = [.slice (some a) len cap] ∧ 0 ≤ a.block ∧ len ≤ cap ∧ cap ≤ maxLen ∧ Y a len cap A L Z ∧
      ∀ r, r < cap → w.cell? (a.add r) = some (.slice (A r) (L r) (C r)) ∧ L r ≤ C r ∧ C r ≤ maxLen ∧ (Z r).length = C r ∧ (∀ n ∈ Z r, (Lit.int .i64 n).wf = true) ∧ (A r = none → C r = 0) ∧
        ∀ a', A r = some a' → 0 ≤ a'.block ∧ ∀ c, c < C r → w.cell? (a'.add c) = some (.int .i64 ((Z r).getD c 0))) : ∃ b, CameB w a1 len1 cap1 b := by
  rcases h with ⟨e, _⟩ | ⟨a, len, cap, A, L, C, Z, e, _, hl, hm, _, hr⟩
  · simp only [List.cons.injEq, Value.slice.injEq, and_true] at e
    obtain ⟨rfl, rfl, rfl⟩ := e
    exact ⟨[], ⟨rfl, by omega, fun h => absurd h (by omega), fun j => by simp⟩, fun _ _ => Beds.nil w⟩
  · simp only [List.cons.injEq, Value.slice.injEq, and_true] at e
    obtain ⟨rfl, rfl, rfl⟩ := e
    have hlen : ∀ r, r < len1 → ((Z r).take (L r)).length = L r := fun r h => by
      obtain ⟨_, h1, _, h2, _⟩ := hr r (by omega)
      rw [List.length_take]; omega
    have hget : ∀ r, r < len1 → ((List.range len1).map fun r => (Z r).take (L r)).getD r [] = (Z r).take (L r) := fun r h => by
      simp [List.getD_eq_getElem?_getD, h]
    have hspot : 0 < len1 → ∃ b off, a = ⟨b, off, none⟩ := fun hp => by
      obtain ⟨b, off, spot⟩ := a
      have hs : spot = none := by simpa [Addr.add] using World.cell?_spot (hr 0 (by omega)).1
      exact ⟨b, off, by rw [hs]⟩
    refine ⟨(List.range len1).map fun r => (Z r).take (L r), ⟨by simp, by unfold maxLen at hm; omega, fun hp => ?_, fun j => ?_⟩, fun hn hsm => ⟨by simp, by omega, hl, (fun h => absurd h (by simp)), fun hp => ?_⟩⟩
    · obtain ⟨b, off, rfl⟩ := hspot hp
      refine ⟨b, off, rfl, fun j hj => ?_⟩
      refine ⟨A j, C j, ?_⟩
      have := (hr j (by omega)).1
      rw [Go.WideShapes.add_plain] at this
      rw [this]
      have h2 := hlen j hj
      rw [List.length_take] at h2
      simp [List.getD_eq_getElem?_getD, hj, h2]
    · by_cases hj : j < len1
      · have h2 := hlen j hj
        obtain ⟨_, h1, h3, _⟩ := hr j (by omega)
        unfold maxLen at h3
        rw [List.length_take] at h2
        simp [List.getD_eq_getElem?_getD, hj]; omega
      · simp [List.getD_eq_getElem?_getD, hj]
    · obtain ⟨b, off, rfl⟩ := hspot hp
      refine ⟨b, off, rfl, fun j hj => ⟨A j, C j, ?_, ?_, ?_, ?_⟩⟩
      · have := (hr j (by omega)).1
        rw [Go.WideShapes.add_plain] at this
        rw [this, hget j hj, hlen j hj]
      · rw [hget j hj, hlen j hj]
        exact (hr j (by omega)).2.1
      · intro hA
        obtain ⟨_, h1, _, _, _, h3, _⟩ := hr j (by omega)
        rw [hget j hj, hlen j hj]
        have := h3 hA
        omega
      · have h9 := hsm j
        rw [hget j hj, hlen j hj] at h9 ⊢
        obtain ⟨_, h1, _, h2, _, h3, h4⟩ := hr j (by omega)
        exact ints_of_cells h1 h2 h3 (fun a' ha => (h4 a' ha).2) h9
theorem CameB.lens {w : World} {A : Option Addr} {n c : Nat} {b : List (List Int)} (h : CameB w A n c b) : Lens w A n (b.map List.length) := h.1
/-- A row of slices that reads as a list of lists. -/
theorem RowV.beds {w : World} {base : Nat} {v : Value} {vs : List Value} {b : List (List Int)} (h : RowV w base v vs) (hl : vs.length = b.length) (hs : b.length ≤ 1000000)
    (hr : ∀ j, j < b.length → ∃ B d, vs[j]? = some (.slice B (b.getD j []).length d) ∧ (b.getD j []).length ≤ d ∧ (B = none → (b.getD j []).length = 0 ∧ d = 0) ∧ Ints w B (b.getD j []).length (b.getD j [])) : ∃ A c, v = .slice A b.length c ∧ Beds w A b.length c b := by
  have hcap : ∃ A c, v = .slice A vs.length c ∧ vs.length ≤ c ∧ (A = none → vs.length = 0 ∧ c = 0) := by
    rcases h.2 with ⟨e2, hn⟩ | ⟨g, cap, cur, e2, hb, hh, hc, _⟩
    · exact ⟨none, 0, by rw [e2, hn], by omega, fun _ => ⟨hn, rfl⟩⟩
    · exact ⟨_, cap, e2, hc, fun h => by cases h⟩
  obtain ⟨A, c, e, hle, hnone⟩ := hcap
  obtain ⟨A', c', e', hc⟩ := h.form
  rw [e] at e'
  injection e' with e1 e2 e3
  subst e1 e3
  rw [hl] at e hc hle hnone
  refine ⟨A, c, e, rfl, hs, hle, hnone, fun hp => ?_⟩
  obtain ⟨g, hA, hcell⟩ := hc hp
  refine ⟨g, 0, hA, fun j hj => ?_⟩
  obtain ⟨B, d, h1, h2⟩ := hr j hj
  exact ⟨B, d, by rw [Nat.zero_add, hcell j hj]; exact h1, h2⟩
end Go.Proofs.YtiodednhadnekaaDoor
