/- The mates of a bed, in order; the memory of Mate. -/
import Derived.Test.YtiodednhadnekaaDoorW23
namespace Go.Proofs.YtiodednhadnekaaDoor
open Go.RowKit Go.Deep

/-! ### plain -/
def lineM (n : Nat) (o : Nat → Nat → Int) (r : Nat) : List Int := (List.range n).map (o r)
def gridL (n : Nat) (o : Nat → Nat → Int) : List (List Int) := (List.range n).map (lineM n o)
def layTo (R : Nat) (l : List Nat) (x : Int) (o : Nat → Nat → Int) : Nat → Nat → Int := fun r c => if r < R ∧ c = l.getD r 0 then x else o r c
def freeTo (R : Nat) (l : List Nat) (o : Nat → Nat → Int) : Bool := (List.range R).all fun r => decide (o r (l.getD r 0) < 0)
def updM (n : Nat) (o : Nat → Nat → Int) (best : List (List Int)) : List (List Int) := if best = [] then gridL n o else if cmpG (gridL n o) best < 0 then gridL n o else best
/-- The least mate, of those seen and those from the grid o on. -/
def mtF (n : Nat) (T : List (List Nat)) : Nat → Nat → (Nat → Nat → Int) → List (List Int) → List (List Int)
  | 0, _, o, best => updM n o best
  | f + 1, k, o, best => (byCol T k).foldl (fun best l => if freeTo n l o = true then mtF n T f (k + 1) (layTo n l k o) best else best) best
def mtStep (n : Nat) (T : List (List Nat)) (f k : Nat) (o : Nat → Nat → Int) (best : List (List Int)) (l : List Nat) : List (List Int) := if freeTo n l o = true then mtF n T f (k + 1) (layTo n l k o) best else best
def mtTo (n : Nat) (T : List (List Nat)) (f k : Nat) (o : Nat → Nat → Int) (best : List (List Int)) (i : Nat) : List (List Int) := ((byCol T k).take i).foldl (mtStep n T f k o) best
theorem mtTo_zero (n : Nat) (T : List (List Nat)) (f k : Nat) (o : Nat → Nat → Int) (best : List (List Int)) : mtTo n T f k o best 0 = best := rfl
theorem mtTo_succ {n : Nat} {T : List (List Nat)} {f k : Nat} {o : Nat → Nat → Int} {best : List (List Int)} {i : Nat} (h : i < (byCol T k).length) : mtTo n T f k o best (i + 1) = mtStep n T f k o (mtTo n T f k o best i) ((byCol T k).getD i []) := by
  unfold mtTo
  rw [List.take_succ_eq_append_getElem h, List.foldl_append]
  simp [List.getD_eq_getElem?_getD, h]
theorem mtF_succ (n : Nat) (T : List (List Nat)) (f k : Nat) (o : Nat → Nat → Int) (best : List (List Int)) : mtF n T (f + 1) k o best = mtTo n T f k o best (byCol T k).length := by
  unfold mtTo
  rw [List.take_of_length_le (Nat.le_refl _)]
  rfl
theorem lineM_len (n : Nat) (o : Nat → Nat → Int) (r : Nat) : (lineM n o r).length = n := by simp [lineM]
theorem lineM_get {n c : Nat} (o : Nat → Nat → Int) (r : Nat) (h : c < n) : (lineM n o r).getD c 0 = o r c := by simp [lineM, List.getD_eq_getElem?_getD, h]
theorem gridL_len (n : Nat) (o : Nat → Nat → Int) : (gridL n o).length = n := by simp [gridL]
theorem gridL_get {n r : Nat} (o : Nat → Nat → Int) (h : r < n) : (gridL n o).getD r [] = lineM n o r := by simp [gridL, List.getD_eq_getElem?_getD, h]
theorem gridL_shape (n : Nat) (o : Nat → Nat → Int) : sqShape n (gridL n o) := ⟨gridL_len n o, fun r hr => by rw [gridL_get o hr, lineM_len]⟩
theorem layTo_zero (l : List Nat) (x : Int) (o : Nat → Nat → Int) : layTo 0 l x o = o := by funext r c; unfold layTo; rw [if_neg (by omega)]
theorem layTo_succ (R : Nat) (l : List Nat) (x : Int) (o : Nat → Nat → Int) (r c : Nat) : layTo (R + 1) l x o r c = if r = R ∧ c = l.getD R 0 then x else layTo R l x o r c := by
  unfold layTo
  by_cases h1 : r = R ∧ c = l.getD R 0
  · rw [if_pos h1, if_pos ⟨by omega, by rw [h1.1]; exact h1.2⟩]
  · rw [if_neg h1]
    by_cases h2 : r < R ∧ c = l.getD r 0
    · rw [if_pos h2, if_pos ⟨by omega, h2.2⟩]
    · rw [if_neg h2, if_neg]
      rintro ⟨h3, h4⟩
      by_cases e : r = R
      · exact h1 ⟨e, by rw [← e]; exact h4⟩
      · exact h2 ⟨by omega, h4⟩
theorem freeTo_succ (R : Nat) (l : List Nat) (o : Nat → Nat → Int) : freeTo (R + 1) l o = (freeTo R l o && decide (o R (l.getD R 0) < 0)) := by
  unfold freeTo
  rw [List.range_succ, List.all_append]
  simp
theorem free_at {n : Nat} {l : List Nat} {o : Nat → Nat → Int} (h : freeTo n l o = true) {r : Nat} (hr : r < n) : o r (l.getD r 0) < 0 := by
  unfold freeTo at h
  rw [List.all_eq_true] at h
  simpa using h r (List.mem_range.2 hr)
/-- What is laid and taken away again is as it was. -/
theorem unlay {n : Nat} {l : List Nat} {o : Nat → Nat → Int} (h : freeTo n l o = true) (ho : ∀ r c, o r c = -1 ∨ 0 ≤ o r c) (x : Int) : layTo n l (-1) (layTo n l x o) = o := by
  funext r c
  unfold layTo
  by_cases h1 : r < n ∧ c = l.getD r 0
  · rw [if_pos h1]
    have h2 := free_at h h1.1
    rw [← h1.2] at h2
    have := ho r c
    omega
  · rw [if_neg h1, if_neg h1]
theorem lay_ok {n : Nat} {l : List Nat} {o : Nat → Nat → Int} (ho : ∀ r c, o r c = -1 ∨ 0 ≤ o r c) (x : Nat) : ∀ r c, layTo n l (x : Int) o r c = -1 ∨ 0 ≤ layTo n l (x : Int) o r c := fun r c => by
  unfold layTo
  split
  · right; omega
  · exact ho r c
def MG (n : Nat) (best : List (List Int)) : Prop := best = [] ∨ sqShape n best
theorem updM_shape {n : Nat} {o : Nat → Nat → Int} {best : List (List Int)} (h : MG n best) : MG n (updM n o best) := by
  unfold updM
  split
  · exact .inr (gridL_shape n o)
  · split
    · exact .inr (gridL_shape n o)
    · exact h
theorem foldl_inv {α β : Type} {P : β → Prop} {f : β → α → β} (hf : ∀ b a, P b → P (f b a)) : ∀ (l : List α) (b : β), P b → P (l.foldl f b)
  | [], _, h => h
  | a :: l, b, h => foldl_inv hf l (f b a) (hf b a h)
theorem mtF_shape {n : Nat} {T : List (List Nat)} : ∀ (f k : Nat) (o : Nat → Nat → Int) (best : List (List Int)), MG n best → MG n (mtF n T f k o best)
  | 0, _, _, _, h => updM_shape h
  | f + 1, k, o, best, h => by
    unfold mtF
    exact foldl_inv (P := MG n) (fun b l hb => by
      show MG n (if freeTo n l o = true then _ else b)
      split
      · exact mtF_shape f _ _ _ hb
      · exact hb) _ _ h
theorem mtTo_shape {n : Nat} {T : List (List Nat)} {f k : Nat} {o : Nat → Nat → Int} {best : List (List Int)} (h : MG n best) (i : Nat) : MG n (mtTo n T f k o best i) := by
  unfold mtTo
  exact foldl_inv (P := MG n) (fun b l hb => by
    unfold mtStep
    split
    · exact mtF_shape f _ _ _ hb
    · exact hb) _ _ h
/-! ### memory -/
theorem Row.mono {w : World} {base base' : Nat} {v : Value} {xs : List Int} (h : Row w base v xs) (hb : base' ≤ base) : Row w base' v xs := by
  refine ⟨h.1, ?_⟩
  rcases h.2 with h | ⟨g, cap, cur, e, h1, h2⟩
  · exact .inl h
  · exact .inr ⟨g, cap, cur, e, Nat.le_trans hb h1, h2⟩
theorem RowV.mono {w : World} {base base' : Nat} {v : Value} {vs : List Value} (h : RowV w base v vs) (hb : base' ≤ base) : RowV w base' v vs := by
  refine ⟨h.1, ?_⟩
  rcases h.2 with h | ⟨g, cap, cur, e, h1, h2⟩
  · exact .inl h
  · exact .inr ⟨g, cap, cur, e, Nat.le_trans hb h1, h2⟩
/-- A row of rows of ints, all of it above base. -/
def BRow (w : World) (base : Nat) (v : Value) (L : List (List Int)) : Prop := ∃ vs, RowV w base v vs ∧ vs.length = L.length ∧ ∀ (j : Nat) (u : Value), vs[j]? = some u → Row w base u (L.getD j [])
theorem ownsRow_far {w : World} {base : Nat} {t : TypeId} {s : Nat} {v : Value} {len : Nat} {vs : List Value} (h : w.ownsRow base t s v len vs) {a : Addr} (ha : a.block < base) (u : Value) : (w.setCell a u).ownsRow base t s v len vs :=
  World.ownsRow.kept h (grown_setC w a u) (by
    cases hb : v.ownBlock with
    | none => exact .inl rfl
    | some b =>
      refine .inr fun e => ?_
      have := (World.ownsRow.lt h b hb).1
      injection e with e
      omega)
section
variable {w w' : World} {base : Nat} {v : Value} {L : List (List Int)}
theorem BRow.nil (w : World) (base : Nat) : BRow w base (.slice none 0 0) [] := ⟨[], RowV.nil w base, rfl, fun j u h => by simp at h⟩
theorem BRow.below (h : BRow w base v L) (hb : Below w.heap.size w w') : BRow w' base v L := by
  obtain ⟨vs, h1, h2, h3⟩ := h
  exact ⟨vs, h1.below hb, h2, fun j u hu => (h3 j u hu).below hb⟩
theorem BRow.far (h : BRow w base v L) {a : Addr} (ha : a.block < base) (u : Value) : BRow (w.setCell a u) base v L := by
  obtain ⟨vs, h1, h2, h3⟩ := h
  exact ⟨vs, ownsRow_far h1 ha u, h2, fun j u' hu => ownsRow_far (h3 j u' hu) ha u⟩
theorem BRow.bedsN (h : BRow w base v L) (hl : L.length ≤ 1000000) (hs : ∀ j, (L.getD j []).length ≤ 1000000) : ∃ A c, v = .slice A L.length c ∧ BedsN w base A L.length c L := by
  obtain ⟨vs, h1, h2, h3⟩ := h
  have hcap : ∃ A c, v = .slice A vs.length c ∧ vs.length ≤ c ∧ (A = none → vs.length = 0 ∧ c = 0) := by
    rcases h1.2 with ⟨e2, hn⟩ | ⟨g, cap, cur, e2, hb, hh, hc, _⟩
    · exact ⟨none, 0, by rw [e2, hn], by omega, fun _ => ⟨hn, rfl⟩⟩
    · exact ⟨_, cap, e2, hc, fun h => by cases h⟩
  obtain ⟨A, c, e, hle, hnone⟩ := hcap
  obtain ⟨A', c', e', hc⟩ := h1.form
  rw [e] at e'
  injection e' with e1 e2 e3
  subst e1 e3
  refine ⟨A, c, by rw [e, h2], rfl, hl, by omega, fun hA => by have := hnone hA; omega, fun hn => ?_⟩
  obtain ⟨g, eA, hg⟩ := hc (by omega)
  refine ⟨g, 0, eA, fun j hj => ?_⟩
  have hj' : j < vs.length := by omega
  refine ⟨vs[j], ?_, (h3 j _ (List.getElem?_eq_getElem hj')).rowAt (hs j)⟩
  rw [Nat.zero_add, hg j hj', List.getElem?_eq_getElem hj']
/-- One row more. -/
theorem BRow.push {vs : List Value} {w1 : World} {u v' : Value} {l : List Int} (h1 : RowV w base v vs) (h2 : vs.length = L.length) (h3 : ∀ (j : Nat) (u : Value), vs[j]? = some u → Row w base u (L.getD j [])) (hb : Below w.heap.size w w1) (hu : Row w1 base u l) (hg : w1.grownBy w' v.ownBlock) (hr : RowV w' base v' (vs ++ [u])) : BRow w' base v' (L ++ [l]) := by
  refine ⟨vs ++ [u], hr, by simp [h2], fun j x hx => ?_⟩
  rcases Nat.lt_or_ge j vs.length with hj | hj
  · rw [List.getElem?_append_left hj] at hx
    have e : (L ++ [l]).getD j [] = L.getD j [] := by rw [List.getD_eq_getElem?_getD, List.getElem?_append_left (by omega), ← List.getD_eq_getElem?_getD]
    rw [e]
    exact ((h3 j x hx).below hb).otherV (h1.below hb) hg
  · have hj2 : j = vs.length := by
      rcases Nat.lt_or_ge vs.length j with h | h
      · rw [List.getElem?_eq_none (by simp; omega)] at hx; cases hx
      · omega
    subst hj2
    have hx2 : x = u := by simpa using hx.symm
    have e : (L ++ [l]).getD vs.length [] = l := by rw [h2]; simp [List.getD_eq_getElem?_getD]
    rw [e, hx2]
    exact hu.otherV (h1.below hb) hg
end
/-- What Mate may turn: the best mate, and the rows it tries. -/
def OwnM (n pB : Nat) (gr : Nat → Nat) (i : Nat) : Prop := i = pB ∨ ∃ r, r < n ∧ i = gr r
def CellR (w0 : World) (n pB : Nat) (gr : Nat → Nat) (p o : Nat) (v : Value) : Prop := w0.cell? ⟨p, o, none⟩ = some v ∧ ¬ OwnM n pB gr p
structure MCtx (w0 : World) (n pN pB pO pS pOn gO gS : Nat) (gr : Nat → Nat) (T : List (List Nat)) : Prop where
  cN : CellR w0 n pB gr pN 0 (.int .i64 (n : Int))
  cO : CellR w0 n pB gr pO 0 (.slice (some ⟨gO, 0, none⟩) n n)
  cS : CellR w0 n pB gr pS 0 (.slice (some ⟨gS, 0, none⟩) n n)
  cF : CellR w0 n pB gr pOn 0 (.func (.func 64) #[] #[.pointer (some ⟨pN, 0, none⟩), .pointer (some ⟨pB, 0, none⟩), .pointer (some ⟨pO, 0, none⟩), .pointer (some ⟨pS, 0, none⟩), .pointer (some ⟨pOn, 0, none⟩)])
  out : ∀ r, r < n → CellR w0 n pB gr gO r (.slice (some ⟨gr r, 0, none⟩) n n)
  inj : ∀ r s, r < n → s < n → gr r = gr s → r = s
  low : ∀ r, r < n → gr r < w0.heap.size
  ne : ∀ r, r < n → gr r ≠ pB
  lowB : pB < w0.heap.size
  sets : ∀ k, k < n → ∃ B m c, CellR w0 n pB gr gS k (.slice B m c) ∧ m = (byCol T k).length ∧ ∀ i, i < m → ∃ b o, B = some ⟨b, o, none⟩ ∧ ∃ b' o' c', CellR w0 n pB gr b (o + i) (.slice (some ⟨b', o', none⟩) n c') ∧ ∀ j, j < n → CellR w0 n pB gr b' (o' + j) (.int .i64 (((byCol T k).getD i []).getD j 0 : Nat))
  lens : ∀ l ∈ T, l.length = n ∧ ∀ i, i < n → l.getD i 0 < n
  many : T.length ≤ 1000000
/-- How Mate stands. -/
def MI (w0 : World) (n pB : Nat) (gr : Nat → Nat) (o : Nat → Nat → Int) (v : Value) (best : List (List Int)) (w : World) : Prop :=
  Kept (fun _ i => OwnM n pB gr i) w0 w ∧ (∀ r, r < n → Own w (gr r) (lineM n o r)) ∧ w.heap[pB]? = some (.cells #[v] 22 (0, 0)) ∧ BRow w w0.heap.size v best
section
variable {w0 w w' : World} {n pB : Nat} {gr : Nat → Nat} {o : Nat → Nat → Int} {v : Value} {best : List (List Int)}
theorem MI.read (h : MI w0 n pB gr o v best w) {p q : Nat} {x : Value} (hc : CellR w0 n pB gr p q x) : w.cell? ⟨p, q, none⟩ = some x :=
  (World.cell?_of_block (h.1.block p (lt_of_cell hc.1) hc.2)).trans hc.1
theorem MI.var (h : MI w0 n pB gr o v best w) : w.cell? ⟨pB, 0, none⟩ = some v := by
  rw [cell_of_row w pB 0 _ 22 (0, 0) h.2.2.1]; rfl
theorem MI.varF (h : MI w0 n pB gr o v best w) : w.frozen? ⟨pB, 0, none⟩ = false := by
  have := h.2.2.1
  simp [World.frozen?, this]
theorem MI.size (h : MI w0 n pB gr o v best w) : w0.heap.size ≤ w.heap.size := h.1.size
theorem MI.varLt (h : MI w0 n pB gr o v best w) : pB < w.heap.size := lt_of_cell h.var
theorem MI.below (h : MI w0 n pB gr o v best w) (hb : Below w.heap.size w w') : MI w0 n pB gr o v best w' :=
  ⟨h.1.trans ⟨hb.os, hb.tape, hb.output, hb.size, fun i hi _ => hb.block i hi, fun _ _ h => h⟩, fun r hr => (h.2.1 r hr).below' hb, (hb.block pB h.varLt).trans h.2.2.1, h.2.2.2.below hb⟩
theorem MI.turned (h : MI w0 n pB gr o v best w) {a : Addr} (ha : OwnM n pB gr a.block) (u : Value) : Kept (fun _ i => OwnM n pB gr i) w0 (w.setCell a u) :=
  h.1.trans ⟨rfl, rfl, rfl, by simp [World.setCell], fun i _ hn => Below.heap_setCell w a u i (fun e => hn (by rw [e]; exact ha)), fun _ _ h => h⟩
variable {pN pO pS pOn gO gS : Nat} {T : List (List Nat)}
/-- A crop is laid. -/
theorem MI.lay (h : MI w0 n pB gr o v best w) (hC : MCtx w0 n pN pB pO pS pOn gO gS gr T) {r c : Nat} (hr : r < n) (x : Int) {o' : Nat → Nat → Int} (ho : ∀ r' c', o' r' c' = if r' = r ∧ c' = c then x else o r' c') : MI w0 n pB gr o' v best (w.setCell ⟨gr r, c, none⟩ (.int .i64 x)) := by
  refine ⟨h.turned (.inr ⟨r, hr, rfl⟩) _, fun s hs => ?_, ?_, h.2.2.2.far (hC.low r hr) _⟩
  · by_cases e : s = r
    · subst e
      have h2 := (h.2.1 s hs).set_ c x
      have e2 : (lineM n o s).set c x = lineM n o' s := by
        apply List.ext_getElem (by simp [lineM])
        intro i h1 h2
        simp [lineM, List.getElem_set, ho]
        by_cases e : c = i
        · rw [if_pos e, if_pos e.symm]
        · rw [if_neg e, if_neg (fun h => e h.symm)]
      rw [← e2]
      exact h2
    · have h2 := (h.2.1 s hs).far (p := ⟨gr r, c, none⟩) (fun he => e (hC.inj s r hs hr he)) (.int .i64 x)
      have e2 : lineM n o' s = lineM n o s := by
        unfold lineM
        apply List.map_congr_left
        intro i _
        rw [ho, if_neg (fun h => e h.1)]
      rw [e2]
      exact h2
  · exact (Below.heap_setCell w ⟨gr r, c, none⟩ _ pB (fun e => hC.ne r hr e.symm)).trans h.2.2.1
/-- The best is set. -/
theorem MI.setB (h : MI w0 n pB gr o v best w) (hC : MCtx w0 n pN pB pO pS pOn gO gS gr T) {v' : Value} {best' : List (List Int)} (hb : BRow w w0.heap.size v' best') : MI w0 n pB gr o v' best' (w.setCell ⟨pB, 0, none⟩ v') := by
  refine ⟨h.turned (.inl rfl) _, fun s hs => (h.2.1 s hs).far (p := ⟨pB, 0, none⟩) (hC.ne s hs) _, ?_, hb.far (a := ⟨pB, 0, none⟩) hC.lowB _⟩
  have := h.2.2.1
  simp [World.setCell, Array.getElem?_modify, this]
/-- The best grows. -/
theorem MI.push (h : MI w0 n pB gr o v best w) (hC : MCtx w0 n pN pB pO pS pOn gO gS gr T) {vs : List Value} (h1 : RowV w w0.heap.size v vs) (h2 : vs.length = best.length) (h3 : ∀ (j : Nat) (u : Value), vs[j]? = some u → Row w w0.heap.size u (best.getD j [])) {w1 : World} (hb : Below w.heap.size w w1) {u v' : Value} {l : List Int} (hu : Row w1 w0.heap.size u l) (hg : w1.grownBy w' v.ownBlock) (hr : RowV w' w0.heap.size v' (vs ++ [u])) : MI w0 n pB gr o v' (best ++ [l]) (w'.setCell ⟨pB, 0, none⟩ v') := by
  have m1 := h.below hb
  have hbr := BRow.push h1 h2 h3 hb hu hg hr
  have hge : ∀ b, v.ownBlock = some b → w0.heap.size ≤ b := fun b e => (World.ownsRow.lt h1 b e).1
  have hne : ∀ i, i < w0.heap.size → some i ≠ v.ownBlock := fun i hi e => by have := hge i e.symm; omega
  have hkeep : ∀ i, i < w0.heap.size → w'.heap[i]? = w1.heap[i]? := fun i hi => hg.block i (Nat.lt_of_lt_of_le hi m1.size) (hne i hi)
  have k2 : Kept (fun _ i => OwnM n pB gr i) w0 w' := ⟨hg.os.trans m1.1.os, hg.tape.trans m1.1.tape, hg.output.trans m1.1.output, Nat.le_trans m1.size hg.size, fun i hi hn => (hkeep i hi).trans (m1.1.block i hi hn), fun _ _ h => h⟩
  have k3 : Kept (fun _ i => OwnM n pB gr i) w0 (w'.setCell ⟨pB, 0, none⟩ v') := k2.trans ⟨rfl, rfl, rfl, by simp [World.setCell], fun i _ hn => Below.heap_setCell w' ⟨pB, 0, none⟩ _ i (fun e => hn (.inl e)), fun _ _ h => h⟩
  have hvar : w'.heap[pB]? = some (.cells #[v] 22 (0, 0)) := (hkeep pB hC.lowB).trans m1.2.2.1
  refine ⟨k3, fun r hr => ?_, ?_, hbr.far (a := ⟨pB, 0, none⟩) hC.lowB _⟩
  · have : Own w' (gr r) (lineM n o r) := (hkeep (gr r) (hC.low r hr)).trans (m1.2.1 r hr)
    exact this.far (p := ⟨pB, 0, none⟩) (hC.ne r hr) _
  · simp [World.setCell, Array.getElem?_modify, hvar]
/-- The variable of the best after an append. -/
theorem MI.pushVar (h : MI w0 n pB gr o v best w) (hC : MCtx w0 n pN pB pO pS pOn gO gS gr T) {vs : List Value} (h1 : RowV w w0.heap.size v vs) {w1 : World} (hb : Below w.heap.size w w1) (hg : w1.grownBy w' v.ownBlock) : w'.cell? ⟨pB, 0, none⟩ = some v ∧ w'.frozen? ⟨pB, 0, none⟩ = false := by
  have m1 := h.below hb
  have hne : some pB ≠ v.ownBlock := fun e => by have := (World.ownsRow.lt h1 pB e.symm).1; have := hC.lowB; omega
  have e : w'.heap[pB]? = w1.heap[pB]? := hg.block pB m1.varLt hne
  exact ⟨(World.cell?_of_block e).trans m1.var, (World.frozen?_of_block (a := ⟨pB, 0, none⟩) e).trans m1.varF⟩
/-- What is tried reads as a bed. -/
theorem MI.outB (h : MI w0 n pB gr o v best w) (hC : MCtx w0 n pN pB pO pS pOn gO gS gr T) (hn : 0 < n) (hn7 : n ≤ 7) : Beds w (some ⟨gO, 0, none⟩) n n (gridL n o) :=
  ⟨gridL_len n o, by omega, Nat.le_refl _, fun e => (by cases e), fun _ => ⟨gO, 0, rfl, fun j hj => ⟨some ⟨gr j, 0, none⟩, n, by
    rw [gridL_get o hj, lineM_len, Nat.zero_add]
    exact ⟨h.read (hC.out j hj), Nat.le_refl _, (fun e => by cases e), (h.2.1 j hj).ints' (lineM_len n o j) (by omega)⟩⟩⟩⟩
end
end Go.Proofs.YtiodednhadnekaaDoor
