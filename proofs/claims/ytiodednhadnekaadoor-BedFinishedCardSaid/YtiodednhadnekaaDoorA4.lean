/- Plain laws: a bed has a mate exactly if its places can be parted into transversals. The places that are used, in memory. Walks: parts and part. Walks: part. Walks: parts. Walks: BedParted. Walks: BedParted. -/
import Derived.Test.YtiodednhadnekaaDoorA3
namespace Go.Proofs.YtiodednhadnekaaDoor

/-- Can the places that are left be parted, from the transversal k on? -/
def mtAny (n : Nat) (T : List (List Nat)) : Nat → Nat → (Nat → Nat → Int) → Bool
  | 0, _, _ => true
  | f + 1, k, o => (byCol T k).any fun l => freeTo n l o && mtAny n T f (k + 1) (layTo n l k o)
theorem updM_ne {n : Nat} (hn : 0 < n) (o : Nat → Nat → Int) (best : List (List Int)) : updM n o best ≠ [] := by
  have hg : gridL n o ≠ [] := fun e => by have := gridL_len n o; rw [e] at this; simp at this; omega
  unfold updM
  split
  · exact hg
  · split
    · exact hg
    · assumption
theorem mtF_any {n : Nat} (hn : 0 < n) (T : List (List Nat)) : ∀ (f k : Nat) (o : Nat → Nat → Int) (best : List (List Int)), mtF n T f k o best = [] ↔ best = [] ∧ mtAny n T f k o = false
  | 0, k, o, best => by
    have := updM_ne hn o best
    simp [mtF, mtAny, this]
  | f + 1, k, o, best => by
    unfold mtF mtAny
    generalize byCol T k = L
    induction L generalizing best with
    | nil => simp
    | cons l L ih =>
      rw [List.foldl_cons, ih, List.any_cons]
      cases hf : freeTo n l o
      · simp
      · simp only [if_true, Bool.true_and, Bool.or_eq_false_iff]
        rw [mtF_any hn T f (k + 1) (layTo n l k o) best, and_assoc]
theorem okT_nil (b : List (List Int)) (c : Nat) : okT b [] c = true := by simp [okT, colsM, cropsM, orN]
theorem trF_head {b : List (List Int)} {n : Nat} : ∀ (k : Nat) (l : List Nat), 0 < l.length → ∀ l' ∈ trF b n k l, l'.getD 0 0 = l.getD 0 0
  | 0, l, _, l', h' => by simp [trF] at h'; rw [h']
  | k + 1, l, hl, l', h' => by
    unfold trF at h'
    rw [List.mem_flatMap] at h'
    obtain ⟨c, _, h2⟩ := h'
    split at h2
    · rw [trF_head k (l ++ [c]) (by simp) l' h2, getD_app1 hl]
    · simp at h2
theorem byCol_none {T : List (List Nat)} {k : Nat} (h : ∀ l ∈ T, l.getD 0 0 ≠ k) : byCol T k = [] := by
  unfold byCol
  rw [List.filter_eq_nil_iff]
  intro l hl
  simpa using h l hl
theorem byCol_all {T : List (List Nat)} {k : Nat} (h : ∀ l ∈ T, l.getD 0 0 = k) : byCol T k = T := by
  unfold byCol
  rw [List.filter_eq_self]
  intro l hl
  simpa using h l hl
/-- The transversals that begin with a column. -/
theorem byCol_trans {b : List (List Int)} {n k : Nat} (hk : k < n) : byCol (trans b n) k = trF b n (n - 1) [k] := by
  obtain ⟨m, rfl⟩ : ∃ m, n = m + 1 := ⟨n - 1, by omega⟩
  have key : ∀ c, c ≤ m + 1 → byCol (trTo b (m + 1) m [] c) k = if k < c then trF b (m + 1) m [k] else [] := by
    intro c
    induction c with
    | zero => intro _; rw [trTo_zero, if_neg (by omega)]; rfl
    | succ c ih =>
      intro hc
      have e : trC b (m + 1) m [] c = trF b (m + 1) m [c] := by unfold trC; rw [okT_nil, if_pos rfl]; rfl
      have hh : ∀ l ∈ trF b (m + 1) m [c], l.getD 0 0 = c := fun l hl => trF_head m [c] (by simp) l hl
      have happ : byCol (trTo b (m + 1) m [] c ++ trF b (m + 1) m [c]) k = byCol (trTo b (m + 1) m [] c) k ++ byCol (trF b (m + 1) m [c]) k := by unfold byCol; rw [List.filter_append]
      rw [trTo_succ, e, happ, ih (by omega)]
      by_cases h1 : k = c
      · subst h1
        rw [if_neg (by omega), if_pos (by omega), byCol_all hh, List.nil_append]
      · rw [byCol_none fun l hl => by rw [hh l hl]; omega, List.append_nil]
        by_cases h2 : k < c
        · rw [if_pos h2, if_pos (by omega)]
        · rw [if_neg h2, if_neg (by omega)]
  have h := key (m + 1) (Nat.le_refl _)
  rw [if_pos hk] at h
  exact h
/-- Is the rest of a transversal free? -/
def freeFr (n m : Nat) (l : List Nat) (o : Nat → Nat → Int) : Bool := (List.range n).all fun r => decide (r < m) || decide (o r (l.getD r 0) < 0)
/-- Can it go on so? -/
def partF (b : List (List Int)) (n : Nat) (f k : Nat) (o : Nat → Nat → Int) (j : Nat) (l : List Nat) : Bool := (trF b n j l).any fun l' => freeFr n l.length l' o && mtAny n (trans b n) f (k + 1) (layTo n l' k o)
theorem freeFr_all (n m : Nat) (l : List Nat) (o : Nat → Nat → Int) (h : n ≤ m) : freeFr n m l o = true := by
  unfold freeFr
  rw [List.all_eq_true]
  intro r hr
  have := List.mem_range.1 hr
  simp; left; omega
theorem freeFr_zero (n : Nat) (l : List Nat) (o : Nat → Nat → Int) : freeFr n 0 l o = freeTo n l o := by
  unfold freeFr freeTo
  congr 1
theorem freeFr_step {n m : Nat} (l : List Nat) (o : Nat → Nat → Int) (h : m < n) : freeFr n m l o = (decide (o m (l.getD m 0) < 0) && freeFr n (m + 1) l o) := by
  rw [Bool.eq_iff_iff]
  unfold freeFr
  simp only [List.all_eq_true, List.mem_range, Bool.or_eq_true, decide_eq_true_eq, Bool.and_eq_true]
  constructor
  · intro h1
    refine ⟨?_, fun r hr => ?_⟩
    · rcases h1 m h with h2 | h2
      · omega
      · exact h2
    · rcases h1 r hr with h2 | h2
      · left; omega
      · right; exact h2
  · rintro ⟨h1, h2⟩ r hr
    by_cases e : r = m
    · right; rw [e]; exact h1
    · rcases h2 r hr with h3 | h3
      · left; omega
      · right; exact h3
theorem trF_keep {b : List (List Int)} {n : Nat} : ∀ (j : Nat) (l : List Nat), ∀ l' ∈ trF b n j l, ∀ i, i < l.length → l'.getD i 0 = l.getD i 0
  | 0, l, l', h', i, _ => by simp [trF] at h'; rw [h']
  | j + 1, l, l', h', i, hi => by
    unfold trF at h'
    rw [List.mem_flatMap] at h'
    obtain ⟨c, _, h2⟩ := h'
    split at h2
    · rw [trF_keep j (l ++ [c]) l' h2 i (by simp; omega), getD_app1 hi]
    · simp at h2
theorem partF_end (b : List (List Int)) (n f k : Nat) (o : Nat → Nat → Int) (l : List Nat) (hl : n ≤ l.length) : partF b n f k o 0 l = mtAny n (trans b n) f (k + 1) (layTo n l k o) := by
  unfold partF
  rw [show trF b n 0 l = [l] from rfl, List.any_cons, List.any_nil, Bool.or_false, freeFr_all n l.length l o hl, Bool.true_and]
theorem partF_step (b : List (List Int)) (n f k : Nat) (o : Nat → Nat → Int) (j : Nat) (l : List Nat) (hl : l.length < n) : partF b n f k o (j + 1) l = (List.range n).any fun c => decide (o l.length c < 0) && okT b l c && partF b n f k o j (l ++ [c]) := by
  unfold partF
  rw [show trF b n (j + 1) l = (List.range n).flatMap fun c => if okT b l c = true then trF b n j (l ++ [c]) else [] from rfl, List.any_flatMap]
  congr 1
  funext c
  cases hok : okT b l c
  · simp
  · rw [if_pos rfl, Bool.and_true]
    have e : ∀ l' ∈ trF b n j (l ++ [c]), (freeFr n l.length l' o && mtAny n (trans b n) f (k + 1) (layTo n l' k o)) = (decide (o l.length c < 0) && (freeFr n (l ++ [c]).length l' o && mtAny n (trans b n) f (k + 1) (layTo n l' k o))) := fun l' hl' => by
      have h1 := trF_keep j (l ++ [c]) l' hl' l.length (by simp)
      rw [getD_app2] at h1
      rw [freeFr_step l' o hl, h1, List.length_append, List.length_singleton, Bool.and_assoc]
    rw [Bool.eq_iff_iff]
    simp only [List.any_eq_true, Bool.and_eq_true]
    constructor
    · rintro ⟨l', h1, h2⟩
      have h3 := e l' h1
      rw [h2.1, h2.2] at h3
      have h4 := h3.symm
      simp only [Bool.and_eq_true, Bool.and_true] at h4
      exact ⟨h4.1, l', h1, h4.2, h2.2⟩
    · rintro ⟨h0, l', h1, h2⟩
      have h3 := e l' h1
      rw [h0, h2.1, h2.2] at h3
      simp only [Bool.and_true] at h3
      exact ⟨l', h1, h3, h2.2⟩
/-- A transversal that begins with its column, as the parts see it. -/
theorem mtAny_part (b : List (List Int)) (n f k : Nat) (o : Nat → Nat → Int) (hk : k < n) (h0 : o 0 k < 0) : mtAny n (trans b n) (f + 1) k o = partF b n f k o (n - 1) [k] := by
  unfold partF
  show ((byCol (trans b n) k).any fun l => freeTo n l o && mtAny n (trans b n) f (k + 1) (layTo n l k o)) = _
  rw [byCol_trans hk, Bool.eq_iff_iff]
  simp only [List.any_eq_true, Bool.and_eq_true]
  have e : ∀ l' ∈ trF b n (n - 1) [k], freeTo n l' o = freeFr n [k].length l' o := fun l' hl' => by
    have h1 := trF_head (n - 1) [k] (by simp) l' hl'
    have h2 : ([k] : List Nat).getD 0 0 = k := rfl
    rw [← freeFr_zero, freeFr_step l' o (by omega), h1, h2, decide_eq_true h0, Bool.true_and]
    rfl
  constructor
  · rintro ⟨l', h1, h2⟩
    exact ⟨l', h1, by rw [← e l' h1]; exact h2⟩
  · rintro ⟨l', h1, h2⟩
    exact ⟨l', h1, by rw [e l' h1]; exact h2⟩
end Go.Proofs.YtiodednhadnekaaDoor

namespace Go.Proofs.YtiodednhadnekaaDoor
open Go.RowKit Go.Deep
attribute [local go_sem ↓] Go.wp_at_zero Go.wp_at_succ

theorem wpList_growI {w : World} {ops : Array Oper} {rest : List Oper} {o : Oper} {a : Act} {Q : Exit → Act → World → Prop} (hwant : Region.wanted o (yielded ops a.tmps) = true) (s x : Operand)
    (ho : o.op = .call { callee := .builtin .append, args := #[s, x], argTypes := #[29, 29] })
    (A : Option Addr) (m : Nat) (l : List Nat) (hs : a.eval s = .slice A m m) (hm : l.length = m) (hn : A = none → m = 0) (hi : Ints w A m (zs l)) (g c : Nat) (y : Nat) (hx : a.eval x = .slice (some ⟨g, 0, none⟩) 1 c)
    (hc : w.cell? ⟨g, 0, none⟩ = some (.int .i64 (y : Int))) (hl : m ≤ 1000000)
    (h : ∀ A' c' w', IntsN (fun _ i => i < w.heap.size) w' A' (l ++ [y]) → A' ≠ none → m + 1 ≤ c' → Below w.heap.size w w' → wpList Tryd.prog ops Q rest (a.put o.dst (.slice A' (m + 1) c')) w') : wpList Tryd.prog ops Q (o :: rest) a w :=
  wpList_step fun _ hK => step_growI hwant s x ho A m l hs hm hn hi g c y hx hc hl (fun A' c' w' h1 h2 h3 h4 => hK _ _ (h A' c' w' h1 h2 h3 h4))
/-- The blocks of the rows of what is used. -/
def OwnU (n : Nat) (gr : Nat → Nat) (i : Nat) : Prop := ∃ r, r < n ∧ i = gr r
structure UsedM (w : World) (gU : Nat) (gr : Nat → Nat) (n : Nat) (U : Nat → Nat → Bool) : Prop where
  hdr : ∀ r, r < n → w.cell? ⟨gU, r, none⟩ = some (.slice (some ⟨gr r, 0, none⟩) n n)
  val : ∀ r c, r < n → c < n → w.cell? ⟨gr r, c, none⟩ = some (.bool (U r c))
  blk : ∀ r, r < n → ∃ cs, w.heap[gr r]? = some (.cells cs 4 (0, 0))
  inj : ∀ r s, r < n → s < n → gr r = gr s → r = s
section
variable {w w' : World} {gU n : Nat} {gr : Nat → Nat} {U : Nat → Nat → Bool}
theorem UsedM.ne (h : UsedM w gU gr n U) {r : Nat} (hr : r < n) : gr r ≠ gU := fun e => by
  have h1 := h.val r 0 hr (by omega)
  have h2 := h.hdr 0 (by omega)
  rw [e, h2] at h1
  cases h1
theorem UsedM.frozen (h : UsedM w gU gr n U) {r : Nat} (hr : r < n) (c : Nat) : w.frozen? ⟨gr r, c, none⟩ = false := by
  obtain ⟨cs, e⟩ := h.blk r hr
  simp [World.frozen?, e]
theorem UsedM.below (h : UsedM w gU gr n U) (hb : Below w.heap.size w w') : UsedM w' gU gr n U :=
  ⟨fun r hr => (hb.cell (lt_of_cell (h.hdr r hr))).trans (h.hdr r hr), fun r c hr hc => (hb.cell (lt_of_cell (h.val r c hr hc))).trans (h.val r c hr hc),
   fun r hr => by
    obtain ⟨cs, e⟩ := h.blk r hr
    exact ⟨cs, (hb.block _ (lt_of_cell (h.val r 0 hr (by omega)))).trans e⟩, h.inj⟩
theorem UsedM.heap {W : World} (h : UsedM w gU gr n U) (e : W.heap = w.heap) : UsedM W gU gr n U :=
  ⟨fun r hr => (World.cell?_of_block (congrArg (fun x => x[gU]?) e)).trans (h.hdr r hr), fun r c hr hc => (World.cell?_of_block (congrArg (fun x => x[gr r]?) e)).trans (h.val r c hr hc), fun r hr => by rw [e]; exact h.blk r hr, h.inj⟩
theorem UsedM.set_ (h : UsedM w gU gr n U) {r c : Nat} (hr : r < n) (hc : c < n) (x : Bool) {U' : Nat → Nat → Bool} (hU : ∀ i j, i < n → j < n → U' i j = if i = r ∧ j = c then x else U i j) : UsedM (w.setCell ⟨gr r, c, none⟩ (.bool x)) gU gr n U' := by
  refine ⟨fun i hi => (World.cell?_setCell_other w ⟨gr r, c, none⟩ ⟨gU, i, none⟩ _ (fun e => h.ne hr (by injection e))).trans (h.hdr i hi), fun i j hi hj => ?_, fun i hi => ?_, h.inj⟩
  · rw [hU i j hi hj]
    by_cases e : i = r ∧ j = c
    · rw [if_pos e, e.1, e.2]
      exact World.cell?_setCell_same w ⟨gr r, c, none⟩ _ (h.val r c hr hc)
    · rw [if_neg e]
      refine (World.cell?_setCell_other w ⟨gr r, c, none⟩ ⟨gr i, j, none⟩ _ (fun e2 => e ?_)).trans (h.val i j hi hj)
      injection e2 with e3 e4
      exact ⟨(h.inj r i hr hi e3).symm, e4.symm⟩
  · obtain ⟨cs, e⟩ := h.blk i hi
    by_cases e2 : i = r
    · subst e2
      exact ⟨cs.setIfInBounds c (.bool x), by simp [World.setCell, Array.getElem?_modify, e]⟩
    · exact ⟨cs, (Below.heap_setCell w ⟨gr r, c, none⟩ _ (gr i) (fun e3 => e2 (h.inj i r hi hr e3))).trans e⟩
theorem UsedM.turned (h : Kept (fun _ i => OwnU n gr i) w w') {r : Nat} (hr : r < n) (c : Nat) (v : Value) : Kept (fun _ i => OwnU n gr i) w (w'.setCell ⟨gr r, c, none⟩ v) :=
  h.trans ⟨rfl, rfl, rfl, by simp [World.setCell], fun i _ hn => Below.heap_setCell w' ⟨gr r, c, none⟩ _ i (fun e => hn ⟨r, hr, e⟩), fun _ _ h => h⟩
end
/-- What is used, read off the grid. -/
def usedO (o : Nat → Nat → Int) : Nat → Nat → Bool := fun r c => decide (0 ≤ o r c)
theorem usedO_lay (R : Nat) (l : List Nat) (k : Nat) (o : Nat → Nat → Int) (i j : Nat) : usedO (layTo (R + 1) l (k : Nat) o) i j = if i = R ∧ j = l.getD R 0 then true else usedO (layTo R l (k : Nat) o) i j := by
  unfold usedO
  rw [layTo_succ]
  by_cases e : i = R ∧ j = l.getD R 0
  · rw [if_pos e, if_pos e, decide_eq_true (by omega)]
  · rw [if_neg e, if_neg e]
theorem usedO_take (R : Nat) (l : List Nat) (o : Nat → Nat → Int) (i j : Nat) : usedO (layTo (R + 1) l (-1) o) i j = if i = R ∧ j = l.getD R 0 then false else usedO (layTo R l (-1) o) i j := by
  unfold usedO
  rw [layTo_succ]
  by_cases e : i = R ∧ j = l.getD R 0
  · rw [if_pos e, if_pos e, decide_eq_false (by omega)]
  · rw [if_neg e, if_neg e]
/-- What stands when the transversal k is looked for. -/
structure PartS (n k : Nat) (o : Nat → Nat → Int) : Prop where
  lo : ∀ r c, o r c = -1 ∨ 0 ≤ o r c
  top : ∀ c, c < n → (o 0 c < 0 ↔ k ≤ c)
theorem PartS.next {n k : Nat} {o : Nat → Nat → Int} (h : PartS n k o) {l : List Nat} (hn : 0 < n) (hl : l.getD 0 0 = k) : PartS n (k + 1) (layTo n l (k : Nat) o) := by
  refine ⟨lay_ok h.lo k, fun c hc => ?_⟩
  unfold layTo
  by_cases e : 0 < n ∧ c = l.getD 0 0
  · rw [if_pos e]; omega
  · rw [if_neg e]
    have h1 := h.top c hc
    have h2 : c ≠ k := fun e2 => e ⟨hn, by omega⟩
    omega
end Go.Proofs.YtiodednhadnekaaDoor

namespace Go.Proofs.YtiodednhadnekaaDoor
open Go.RowKit Go.Deep
attribute [local go_sem ↓] Go.wp_at_zero Go.wp_at_succ

theorem Kept.likeU {n : Nat} {gr : Nat → Nat} {a b W : World} (h : Kept (fun _ i => OwnU n gr i) a b) (h1 : W.heap = b.heap) (h2 : W.os = b.os) (h3 : W.tape = b.tape) (h4 : W.output = b.output) : Kept (fun _ i => OwnU n gr i) a W :=
  ⟨h2.trans h.os, h3.trans h.tape, h4.trans h.output, by rw [h1]; exact h.size, fun i hi hn => by rw [h1]; exact h.block i hi hn, fun _ _ hn => hn⟩
section
variable (n : Nat) (b : List (List Int)) (w0 : World) (B : Option Addr) (cb gU cU : Nat) (gr : Nat → Nat)
/-- What parts is shown to do. -/
def PartsC (f k : Nat) : Prop := ∀ (o : Nat → Nat → Int) (w : World), PartS n k o → UsedM w gU gr n (usedO o) → Below w0.heap.size w0 w →
  Calls Tryd.prog 23 #[.slice B n cb, .slice (some ⟨gU, 0, none⟩) n cU, .int .i64 (k : Int)] w fun e w' => e = .returned (.bool (mtAny n (trans b n) f k o)) ∧ Kept (fun _ i => OwnU n gr i) w w' ∧ UsedM w' gU gr n (usedO o)
/-- What part is shown to do. -/
def PartC (f k j : Nat) (l : List Nat) : Prop := ∀ (o : Nat → Nat → Int) (A : Option Addr) (c : Nat) (w : World), PartS n k o → UsedM w gU gr n (usedO o) → Below w0.heap.size w0 w → IntsN (fun _ i => OwnU n gr i) w A l → l.length ≤ c → (∀ i, i < l.length → o i (l.getD i 0) < 0) →
  Calls Tryd.prog 69 #[.slice B n cb, .slice (some ⟨gU, 0, none⟩) n cU, .int .i64 (k : Int), .slice A l.length c] w fun e w' => e = .returned (.bool (partF b n f k o j l)) ∧ Kept (fun _ i => OwnU n gr i) w w' ∧ UsedM w' gU gr n (usedO o)
set_option maxRecDepth 100000 in
set_option maxHeartbeats 8000000 in
theorem f69_end (hn : 0 < n) (hn5 : n ≤ 5) (hgr : ∀ r, r < n → w0.heap.size ≤ gr r) (f k : Nat) (hk : k < n) (l : List Nat) (hl : l.length = n) (hl0 : l.getD 0 0 = k) (hln : ∀ i, i < n → l.getD i 0 < n) (ih : PartsC n b w0 B cb gU cU gr f (k + 1)) : PartC n b w0 B cb gU cU gr f k 0 l := by
  intro o A c w hS hU hbel hA _ hfree
  have HS := Lib.hid hS
  have HU := Lib.hid hU
  have HBL := Lib.hid hbel
  have HA := Lib.hid hA
  have HLN := Lib.hid hln
  have HIH := Lib.hid ih
  have HR : Hid (partF b n f k o 0 l = mtAny n (trans b n) f (k + 1) (layTo n l k o)) := partF_end b n f k o l (by omega)
  have HFR : Hid (freeTo n l o = true) := by
    show freeTo n l o = true
    unfold freeTo
    rw [List.all_eq_true]
    intro r hr
    have := List.mem_range.1 hr
    exact decide_eq_true (hfree r (by omega))
  have HUN : Hid (layTo n l (-1) (layTo n l k o) = o) := unlay HFR.out hS.lo k
  have HNX := Lib.hid (hS.next hn hl0)
  have HKB : Hid (∀ w', Kept (fun _ i => OwnU n gr i) w w' → Below w0.heap.size w0 w') := Lib.hid fun w' k => k.below hbel hbel.size (fun i ⟨r, hr, e⟩ => by rw [e]; exact hgr r hr)
  have hq : ((n : Int) == (n : Int)) = true := by simp
  rw [hl]
  have HLL := Lib.hid hl
  clear hS hU hbel hA hfree hl hln hl0 ih
  go_enter Tryd.func69, Tryd.ntmps69
  go_wp2
  go_loopw [11] (fun ii wr => ∃ i : Nat, i ≤ n ∧ ii = .int .i64 (i : Int) ∧ Kept (fun _ i => OwnU n gr i) w wr ∧ UsedM wr gU gr n (usedO (layTo i l k o))) (fun ii _ => n - (intOf ii).toNat)
  case atStart => exact ⟨0, by omega, rfl, Kept.refl _ _, by rw [layTo_zero]; exact HU.out⟩
  case round => as_aux_lemma =>
    obtain ⟨i, hi, rfl, hk', hu⟩ := hrel
    have HK := Lib.hid hk'
    have HUr := Lib.hid hu
    by_cases hin : i < n
    · skip
      have hA2 := (HA.out.kept HK.out (by rw [HLL.out]; exact hn)).1
      rw [HLL.out] at hA2
      obtain ⟨ga, oa, rfl, hca⟩ := hA2.at_ hin
      rw [zs_get] at hca
      have hx := HLN.out i hin
      have c1 := hu.hdr i hin
      have c2 := hu.val i (l.getD i 0) hin hx
      have f2 := hu.frozen hin (l.getD i 0)
      have HNE := Lib.hid (hu.ne hin)
      have U2 : Hid (UsedM (wr.setCell ⟨gr i, l.getD i 0, none⟩ (.bool true)) gU gr n (usedO (layTo (i + 1) l k o))) := Lib.hid (hu.set_ hin hx true (fun p q _ _ => usedO_lay i l k o p q))
      have K2 := Lib.hid (UsedM.turned hk' hin (l.getD i 0) (.bool true))
      have HDIF : Hid (gr i ≠ ga) := Lib.hid fun e => (HA.out.kept HK.out (by rw [HLL.out]; exact hn)).2 ga oa rfl ⟨i, hin, e.symm⟩
      obtain ⟨x, hx2⟩ : ∃ z, z = l.getD i 0 := ⟨_, rfl⟩
      rw [← hx2] at hca c2 f2 hx U2 K2
      skip
      have i0 : (0 : Int) ≤ (i : Int) := by omega
      have inn : (i : Int) < (n : Int) := by omega
      have x0 : (0 : Int) ≤ (x : Int) := by omega
      have xn : (x : Int) < (n : Int) := by omega
      clear hk' hu hA2 hx2
      go_wp2_with fail
      refine wp_region_held_drew (S := fun W => W.cell? ⟨gU, i, none⟩ = some (.slice (some ⟨gr i, 0, none⟩) n n) ∧ W.cell? ⟨ga, oa + i, none⟩ = some (.int .i64 (x : Int))) (by kernel_rfl) (⟨c1, hca⟩) (fun hS => ?_)
      refine wpAnyH_take (i := 0) (oi := { dst := some 29, op := Op.move (Operand.tmp 1), type := 30, pos := "own.go:138", after := #[], guard := none }) (v := .slice (some ⟨gU, 0, none⟩) n cU) rfl (by kernel_rfl) (by kernel_rfl) (by kernel_rfl) (fun _ _ _ h => h) (Or.inl ⟨by kernel_rfl, fun W hSW => by kernel_rfl⟩) hS ?_
      try simp only [Act.put, List.setIfInBounds_toArray, List.set_cons_zero, List.set_cons_succ]
      refine wpAnyH_take (i := 1) (oi := { dst := some 30, op := Op.move (Operand.tmp 11), type := 3, pos := "own.go:138", after := #[], guard := none }) (v := .int .i64 (i : Int)) rfl (by kernel_rfl) (by kernel_rfl) (by kernel_rfl) (fun _ _ _ h => h) (Or.inl ⟨by kernel_rfl, fun W hSW => by kernel_rfl⟩) hS ?_
      try simp only [Act.put, List.setIfInBounds_toArray, List.set_cons_zero, List.set_cons_succ]
      refine wpAnyH_take (i := 2) (oi := { dst := some 31, op := Op.indexAddr 30 (Operand.tmp 29) (Operand.tmp 30), type := 0, pos := "own.go:138", after := #[{ on := 0, ground := Ground.data }, { on := 1, ground := Ground.data }], guard := none }) (v := .pointer (some ⟨gU, i, none⟩)) rfl (by kernel_rfl) (by kernel_rfl) (by kernel_rfl) (fun _ _ _ h => h) (Or.inl ⟨by kernel_rfl, fun W hSW => by go_simp⟩) hS ?_
      try simp only [Act.put, List.setIfInBounds_toArray, List.set_cons_zero, List.set_cons_succ]
      refine wpAnyH_take (i := 3) (oi := { dst := some 32, op := Op.load 31 (Operand.tmp 31), type := 31, pos := "own.go:138", after := #[{ on := 2, ground := Ground.data }], guard := none }) (v := .slice (some ⟨gr i, 0, none⟩) n n) rfl (by kernel_rfl) (by kernel_rfl) (by kernel_rfl) (fun _ _ _ h => h) (Or.inl ⟨by kernel_rfl, fun W hSW => by have h1 := hSW.1; go_simp⟩) hS ?_
      try simp only [Act.put, List.setIfInBounds_toArray, List.set_cons_zero, List.set_cons_succ]
      refine wpAnyH_take (i := 4) (oi := { dst := some 33, op := Op.move (Operand.tmp 3), type := 29, pos := "own.go:138", after := #[], guard := none }) (v := .slice (some ⟨ga, oa, none⟩) n c) rfl (by kernel_rfl) (by kernel_rfl) (by kernel_rfl) (fun _ _ _ h => h) (Or.inl ⟨by kernel_rfl, fun W hSW => by kernel_rfl⟩) hS ?_
      try simp only [Act.put, List.setIfInBounds_toArray, List.set_cons_zero, List.set_cons_succ]
      refine wpAnyH_take (i := 5) (oi := { dst := some 34, op := Op.move (Operand.tmp 11), type := 3, pos := "own.go:138", after := #[], guard := none }) (v := .int .i64 (i : Int)) rfl (by kernel_rfl) (by kernel_rfl) (by kernel_rfl) (fun _ _ _ h => h) (Or.inl ⟨by kernel_rfl, fun W hSW => by kernel_rfl⟩) hS ?_
      try simp only [Act.put, List.setIfInBounds_toArray, List.set_cons_zero, List.set_cons_succ]
      refine wpAnyH_take (i := 6) (oi := { dst := some 35, op := Op.indexAddr 29 (Operand.tmp 33) (Operand.tmp 34), type := 0, pos := "own.go:138", after := #[{ on := 4, ground := Ground.data }, { on := 5, ground := Ground.data }], guard := none }) (v := .pointer (some ⟨ga, oa + i, none⟩)) rfl (by kernel_rfl) (by kernel_rfl) (by kernel_rfl) (fun _ _ _ h => h) (Or.inl ⟨by kernel_rfl, fun W hSW => by go_simp⟩) hS ?_
      try simp only [Act.put, List.setIfInBounds_toArray, List.set_cons_zero, List.set_cons_succ]
      refine wpAnyH_take (i := 7) (oi := { dst := some 36, op := Op.load 3 (Operand.tmp 35), type := 3, pos := "own.go:138", after := #[{ on := 6, ground := Ground.data }], guard := none }) (v := .int .i64 (x : Int)) rfl (by kernel_rfl) (by kernel_rfl) (by kernel_rfl) (fun _ _ _ h => h) (Or.inl ⟨by kernel_rfl, fun W hSW => by have h1 := hSW.2; go_simp⟩) hS ?_
      try simp only [Act.put, List.setIfInBounds_toArray, List.set_cons_zero, List.set_cons_succ]
      refine wpAnyH_take (i := 8) (oi := { dst := some 37, op := Op.indexAddr 31 (Operand.tmp 32) (Operand.tmp 36), type := 0, pos := "own.go:138", after := #[{ on := 3, ground := Ground.data }, { on := 7, ground := Ground.data }, { on := 0, ground := Ground.phase }, { on := 1, ground := Ground.phase }, { on := 2, ground := Ground.phase }, { on := 3, ground := Ground.phase }, { on := 4, ground := Ground.phase }, { on := 5, ground := Ground.phase }, { on := 6, ground := Ground.phase }, { on := 7, ground := Ground.phase }], guard := none }) (v := .pointer (some ⟨gr i, x, none⟩)) rfl (by kernel_rfl) (by kernel_rfl) (by kernel_rfl) (fun _ _ _ h => h) (Or.inl ⟨by kernel_rfl, fun W hSW => by go_simp⟩) hS ?_
      try simp only [Act.put, List.setIfInBounds_toArray, List.set_cons_zero, List.set_cons_succ]
      refine wpAnyH_ready (rs := [9]) (by kernel_rfl) (by simp) ?_
      refine AllReadyH.cons (o := { dst := none, op := Op.store 4 (Operand.tmp 37) (Operand.const (Value.bool true)), type := 0, pos := "own.go:138", after := #[{ on := 8, ground := Ground.data }, { on := 0, ground := Ground.phase }, { on := 1, ground := Ground.phase }, { on := 2, ground := Ground.phase }, { on := 3, ground := Ground.phase }, { on := 4, ground := Ground.phase }, { on := 5, ground := Ground.phase }, { on := 6, ground := Ground.phase }, { on := 7, ground := Ground.phase }], guard := none }) rfl (fun K hK => ?_) AllReadyH.nil
      go_simp
      refine hK.out _ _ (⟨(World.cell?_setCell_other _ ⟨gr i, x, none⟩ ⟨gU, i, none⟩ _ (fun e => HNE.out (by injection e))).trans hS.1, (World.cell?_setCell_other _ ⟨gr i, x, none⟩ ⟨ga, oa + i, none⟩ _ (fun e => HDIF.out (by injection e))).trans hS.2⟩) (fun hS => ?_)
      clear hK K
      try simp only [Act.put, List.setIfInBounds_toArray, List.set_cons_zero, List.set_cons_succ]
      refine wpAnyH_done (by kernel_rfl) ?_ _
      clear hS
      go_wp2
      go_roundw
      case rel => exact ⟨i + 1, by omega, by go_num, K2.out.likeU rfl rfl rfl rfl, U2.out.heap rfl⟩
      case measure => simp [intOf]; omega
    · skip
      obtain rfl : i = n := by omega
      have K23 : Hid (Calls Tryd.prog 23 #[.slice B i cb, .slice (some ⟨gU, 0, none⟩) i cU, .int .i64 ((k : Int) + 1)] wr fun e w' => e = .returned (.bool (mtAny i (trans b i) f (k + 1) (layTo i l k o))) ∧ Kept (fun _ j => OwnU i gr j) wr w' ∧ UsedM w' gU gr i (usedO (layTo i l k o))) := Lib.hid (HIH.out (layTo i l k o) wr HNX.out hu (HKB.out wr hk'))
      skip
      clear hk' hu
      have k0 : (0 : Int) ≤ (k : Int) := by omega
      have kn : (k : Int) < (i : Int) := by omega
      go_wp2_with fail
      refine K23.out.mono ?_
      rintro e w2 ⟨rfl, hk2, hu2⟩
      have K2 := Lib.hid (HK.out.trans hk2)
      have U2 := Lib.hid hu2
      clear hk2 hu2 K23
      go_wp2
      go_loopw [13] (fun ii ws => ∃ q : Nat, q ≤ i ∧ ii = .int .i64 (q : Int) ∧ Kept (fun _ j => OwnU i gr j) w ws ∧ UsedM ws gU gr i (usedO (layTo q l (-1) (layTo i l k o)))) (fun ii _ => i - (intOf ii).toNat)
      case atStart => exact ⟨0, by omega, rfl, K2.out, by rw [layTo_zero]; exact U2.out⟩
      case round => as_aux_lemma =>
        obtain ⟨q, hq3, rfl, hk', hu⟩ := hrel
        obtain ⟨nn, hnn⟩ : ∃ z, z = i := ⟨_, rfl⟩
        skip
        have HK := Lib.hid hk'
        have HUr := Lib.hid hu
        by_cases hin : q < i
        · skip
          have hA2 := (HA.out.kept HK.out (by rw [HLL.out]; exact hn)).1
          rw [HLL.out] at hA2
          obtain ⟨ga, oa, rfl, hca⟩ := hA2.at_ hin
          rw [zs_get] at hca
          have hx := HLN.out q hin
          have c1 := hu.hdr q hin
          have c2 := hu.val q (l.getD q 0) hin hx
          have f2 := hu.frozen hin (l.getD q 0)
          have HNE := Lib.hid (hu.ne hin)
          have U2 : Hid (UsedM (wr.setCell ⟨gr q, l.getD q 0, none⟩ (.bool false)) gU gr i (usedO (layTo (q + 1) l (-1) (layTo i l k o)))) := Lib.hid (hu.set_ hin hx false (fun p q' _ _ => usedO_take q l (layTo i l k o) p q'))
          have K2 := Lib.hid (UsedM.turned hk' hin (l.getD q 0) (.bool false))
          have HDIF : Hid (gr q ≠ ga) := Lib.hid fun e => (HA.out.kept HK.out (by rw [HLL.out]; exact hn)).2 ga oa rfl ⟨q, hin, e.symm⟩
          obtain ⟨x, hx2⟩ : ∃ z, z = l.getD q 0 := ⟨_, rfl⟩
          rw [← hx2] at hca c2 f2 hx U2 K2
          skip
          have i0 : (0 : Int) ≤ (q : Int) := by omega
          have inn : (q : Int) < (i : Int) := by omega
          have x0 : (0 : Int) ≤ (x : Int) := by omega
          have xn : (x : Int) < (i : Int) := by omega
          clear hk' hu hA2 hx2
          go_wp2_with fail
          refine wp_region_held_drew (S := fun W => W.cell? ⟨gU, q, none⟩ = some (.slice (some ⟨gr q, 0, none⟩) i i) ∧ W.cell? ⟨ga, oa + q, none⟩ = some (.int .i64 (x : Int))) (by kernel_rfl) (⟨c1, hca⟩) (fun hS => ?_)
          refine wpAnyH_take (i := 0) (oi := { dst := some 48, op := Op.move (Operand.tmp 1), type := 30, pos := "own.go:142", after := #[], guard := none }) (v := .slice (some ⟨gU, 0, none⟩) i cU) rfl (by kernel_rfl) (by kernel_rfl) (by kernel_rfl) (fun _ _ _ h => h) (Or.inl ⟨by kernel_rfl, fun W hSW => by kernel_rfl⟩) hS ?_
          try simp only [Act.put, List.setIfInBounds_toArray, List.set_cons_zero, List.set_cons_succ]
          refine wpAnyH_take (i := 1) (oi := { dst := some 49, op := Op.move (Operand.tmp 13), type := 3, pos := "own.go:142", after := #[], guard := none }) (v := .int .i64 (q : Int)) rfl (by kernel_rfl) (by kernel_rfl) (by kernel_rfl) (fun _ _ _ h => h) (Or.inl ⟨by kernel_rfl, fun W hSW => by kernel_rfl⟩) hS ?_
          try simp only [Act.put, List.setIfInBounds_toArray, List.set_cons_zero, List.set_cons_succ]
          refine wpAnyH_take (i := 2) (oi := { dst := some 50, op := Op.indexAddr 30 (Operand.tmp 48) (Operand.tmp 49), type := 0, pos := "own.go:142", after := #[{ on := 0, ground := Ground.data }, { on := 1, ground := Ground.data }], guard := none }) (v := .pointer (some ⟨gU, q, none⟩)) rfl (by kernel_rfl) (by kernel_rfl) (by kernel_rfl) (fun _ _ _ h => h) (Or.inl ⟨by kernel_rfl, fun W hSW => by go_simp⟩) hS ?_
          try simp only [Act.put, List.setIfInBounds_toArray, List.set_cons_zero, List.set_cons_succ]
          refine wpAnyH_take (i := 3) (oi := { dst := some 51, op := Op.load 31 (Operand.tmp 50), type := 31, pos := "own.go:142", after := #[{ on := 2, ground := Ground.data }], guard := none }) (v := .slice (some ⟨gr q, 0, none⟩) i i) rfl (by kernel_rfl) (by kernel_rfl) (by kernel_rfl) (fun _ _ _ h => h) (Or.inl ⟨by kernel_rfl, fun W hSW => by have h1 := hSW.1; go_simp⟩) hS ?_
          try simp only [Act.put, List.setIfInBounds_toArray, List.set_cons_zero, List.set_cons_succ]
          refine wpAnyH_take (i := 4) (oi := { dst := some 52, op := Op.move (Operand.tmp 3), type := 29, pos := "own.go:142", after := #[], guard := none }) (v := .slice (some ⟨ga, oa, none⟩) i c) rfl (by kernel_rfl) (by kernel_rfl) (by kernel_rfl) (fun _ _ _ h => h) (Or.inl ⟨by kernel_rfl, fun W hSW => by kernel_rfl⟩) hS ?_
          try simp only [Act.put, List.setIfInBounds_toArray, List.set_cons_zero, List.set_cons_succ]
          refine wpAnyH_take (i := 5) (oi := { dst := some 53, op := Op.move (Operand.tmp 13), type := 3, pos := "own.go:142", after := #[], guard := none }) (v := .int .i64 (q : Int)) rfl (by kernel_rfl) (by kernel_rfl) (by kernel_rfl) (fun _ _ _ h => h) (Or.inl ⟨by kernel_rfl, fun W hSW => by kernel_rfl⟩) hS ?_
          try simp only [Act.put, List.setIfInBounds_toArray, List.set_cons_zero, List.set_cons_succ]
          refine wpAnyH_take (i := 6) (oi := { dst := some 54, op := Op.indexAddr 29 (Operand.tmp 52) (Operand.tmp 53), type := 0, pos := "own.go:142", after := #[{ on := 4, ground := Ground.data }, { on := 5, ground := Ground.data }], guard := none }) (v := .pointer (some ⟨ga, oa + q, none⟩)) rfl (by kernel_rfl) (by kernel_rfl) (by kernel_rfl) (fun _ _ _ h => h) (Or.inl ⟨by kernel_rfl, fun W hSW => by go_simp⟩) hS ?_
          try simp only [Act.put, List.setIfInBounds_toArray, List.set_cons_zero, List.set_cons_succ]
          refine wpAnyH_take (i := 7) (oi := { dst := some 55, op := Op.load 3 (Operand.tmp 54), type := 3, pos := "own.go:142", after := #[{ on := 6, ground := Ground.data }], guard := none }) (v := .int .i64 (x : Int)) rfl (by kernel_rfl) (by kernel_rfl) (by kernel_rfl) (fun _ _ _ h => h) (Or.inl ⟨by kernel_rfl, fun W hSW => by have h1 := hSW.2; go_simp⟩) hS ?_
          try simp only [Act.put, List.setIfInBounds_toArray, List.set_cons_zero, List.set_cons_succ]
          refine wpAnyH_take (i := 8) (oi := { dst := some 56, op := Op.indexAddr 31 (Operand.tmp 51) (Operand.tmp 55), type := 0, pos := "own.go:142", after := #[{ on := 3, ground := Ground.data }, { on := 7, ground := Ground.data }, { on := 0, ground := Ground.phase }, { on := 1, ground := Ground.phase }, { on := 2, ground := Ground.phase }, { on := 3, ground := Ground.phase }, { on := 4, ground := Ground.phase }, { on := 5, ground := Ground.phase }, { on := 6, ground := Ground.phase }, { on := 7, ground := Ground.phase }], guard := none }) (v := .pointer (some ⟨gr q, x, none⟩)) rfl (by kernel_rfl) (by kernel_rfl) (by kernel_rfl) (fun _ _ _ h => h) (Or.inl ⟨by kernel_rfl, fun W hSW => by go_simp⟩) hS ?_
          try simp only [Act.put, List.setIfInBounds_toArray, List.set_cons_zero, List.set_cons_succ]
          refine wpAnyH_ready (rs := [9]) (by kernel_rfl) (by simp) ?_
          refine AllReadyH.cons (o := { dst := none, op := Op.store 4 (Operand.tmp 56) (Operand.const (Value.bool false)), type := 0, pos := "own.go:142", after := #[{ on := 8, ground := Ground.data }, { on := 0, ground := Ground.phase }, { on := 1, ground := Ground.phase }, { on := 2, ground := Ground.phase }, { on := 3, ground := Ground.phase }, { on := 4, ground := Ground.phase }, { on := 5, ground := Ground.phase }, { on := 6, ground := Ground.phase }, { on := 7, ground := Ground.phase }], guard := none }) rfl (fun K hK => ?_) AllReadyH.nil
          go_simp
          refine hK.out _ _ (⟨(World.cell?_setCell_other _ ⟨gr q, x, none⟩ ⟨gU, q, none⟩ _ (fun e => HNE.out (by injection e))).trans hS.1, (World.cell?_setCell_other _ ⟨gr q, x, none⟩ ⟨ga, oa + q, none⟩ _ (fun e => HDIF.out (by injection e))).trans hS.2⟩) (fun hS => ?_)
          clear hK K
          try simp only [Act.put, List.setIfInBounds_toArray, List.set_cons_zero, List.set_cons_succ]
          refine wpAnyH_done (by kernel_rfl) ?_ _
          clear hS
          go_wp2
          go_roundw
          case rel => exact ⟨q + 1, by omega, by go_num, K2.out.likeU rfl rfl rfl rfl, U2.out.heap rfl⟩
          case measure => simp [intOf]; omega
        · skip
          obtain rfl : q = i := by omega
          have HF : Hid (UsedM wr gU gr q (usedO o)) := Lib.hid (by rw [HUN.out] at hu; exact hu)
          clear hk' hu
          go_wp2
          go_ret
          exact ⟨ret_bool (by rw [HR.out]), HK.out, HF.out⟩
end
end Go.Proofs.YtiodednhadnekaaDoor

namespace Go.Proofs.YtiodednhadnekaaDoor
open Go.RowKit Go.Deep
attribute [local go_sem ↓] Go.wp_at_zero Go.wp_at_succ

theorem keptU_below {n : Nat} {gr : Nat → Nat} {a w w' : World} (h : Kept (fun _ i => OwnU n gr i) a w) (hb : Below w.heap.size w w') : Kept (fun _ i => OwnU n gr i) a w' :=
  h.trans ⟨hb.os, hb.tape, hb.output, hb.size, fun i hi _ => hb.block i hi, fun _ _ h => h⟩
theorem any_range_hit {g : Nat → Bool} {n x : Nat} (hx : x < n) (h : g x = true) : (List.range n).any g = true := List.any_eq_true.2 ⟨x, List.mem_range.2 hx, h⟩
theorem any_range_miss {g : Nat → Bool} {n : Nat} (h : ∀ x, x < n → g x = false) : (List.range n).any g = false := List.any_eq_false.2 fun x hx => by rw [h x (List.mem_range.1 hx)]; simp
section
variable (n : Nat) (b : List (List Int)) (w0 : World) (B : Option Addr) (cb gU cU : Nat) (gr : Nat → Nat)
set_option maxRecDepth 100000 in
set_option maxHeartbeats 8000000 in
theorem f69_step (hb : IsFull n b) (hs : Beds w0 B n cb b) (hn5 : n ≤ 5) (hgr : ∀ r, r < n → w0.heap.size ≤ gr r) (f k : Nat) (hk : k < n) (j : Nat) (l : List Nat) (hl : l.length + (j + 1) = n) (hl1 : 0 < l.length) (hln : ∀ i, i < l.length → l.getD i 0 < n)
    (ih : ∀ c, c < n → PartC n b w0 B cb gU cU gr f k j (l ++ [c])) : PartC n b w0 B cb gU cU gr f k (j + 1) l := by
  intro o A c w hS hU hbel hA hcap hfree
  have HS := Lib.hid hS
  have HU := Lib.hid hU
  have HBL := Lib.hid hbel
  have HA := Lib.hid hA
  have HLN := Lib.hid hln
  have HIH := Lib.hid ih
  have HBED := Lib.hid hs
  have HFREE := Lib.hid hfree
  have HROW : Hid (∀ i, i < n → (b.getD i []).length = n) := hb.shape.2
  have HR : Hid (partF b n f k o (j + 1) l = (List.range n).any fun c => decide (o l.length c < 0) && okT b l c && partF b n f k o j (l ++ [c])) := partF_step b n f k o j l (by omega)
  have HOK : Hid (∀ x, x < n → rokT b l x l.length = okT b l x) := fun x hx => rokT_ok hb (by omega) hx hln
  have HROK : Hid (∀ x R, rokT b l x (R + 1) = (rokT b l x R && (decide (l.getD R 0 ≠ x) && decide (gAt b R (l.getD R 0) ≠ gAt b l.length x)))) := fun x R => rokT_succ b l x R
  have HR0 : Hid (∀ x, rokT b l x 0 = true) := fun x => rfl
  have HKB : Hid (∀ w', Kept (fun _ i => OwnU n gr i) w w' → Below w0.heap.size w0 w') := Lib.hid fun w' k => k.below hbel hbel.size (fun i ⟨r, hr, e⟩ => by rw [e]; exact hgr r hr)
  obtain ⟨r, hr⟩ : ∃ z, z = l.length := ⟨_, rfl⟩
  have HRL := Lib.hid hr
  have HKA : Hid (∀ w', Kept (fun _ i => OwnU n gr i) w w' → Ints w' A r (zs l)) := Lib.hid fun w' k => by rw [hr]; exact (hA.kept k hl1).1
  rw [← hr] at hl HROK HOK HR hcap ⊢
  have hrn : r < n := by omega
  have hr1 : 0 < r := by omega
  have hq : ((r : Int) == (n : Int)) = false := by simp; omega
  have r0 : (0 : Int) ≤ (r : Int) := by omega
  have rn : (r : Int) < (n : Int) := by omega
  obtain ⟨gA, oA, hAA, _⟩ := (HKA.out w (Kept.refl _ _)).at_ hr1
  subst hAA
  clear hb hs hS hU hbel hA hfree hln ih hr hl hl1
  go_enter Tryd.func69, Tryd.ntmps69
  go_wp2
  go_loopw [14] (fun ci wr => ∃ x : Nat, x ≤ n ∧ ci = .int .i64 (x : Int) ∧ Hid (∀ y, y < x → (decide (o r y < 0) && okT b l y && partF b n f k o j (l ++ [y])) = false) ∧ Kept (fun _ i => OwnU n gr i) w wr ∧ UsedM wr gU gr n (usedO o)) (fun ci _ => n - (intOf ci).toNat)
  case atStart => exact ⟨0, by omega, rfl, fun y hy => absurd hy (by omega), Kept.refl _ _, HU.out⟩
  case round => as_aux_lemma =>
    obtain ⟨x, hx, rfl, hno, hk', hu⟩ := hrel
    have HK := Lib.hid hk'
    have HUr := Lib.hid hu
    have HNO := Lib.hid hno.out
    by_cases hxn : x < n
    · have c1 := hu.hdr r hrn
      have c2 := hu.val r x hrn hxn
      have x0 : (0 : Int) ≤ (x : Int) := by omega
      have xn : (x : Int) < (n : Int) := by omega
      have HNX : Hid ((decide (o r x < 0) && okT b l x && partF b n f k o j (l ++ [x])) = false → ∀ y, y < x + 1 → (decide (o r y < 0) && okT b l y && partF b n f k o j (l ++ [y])) = false) := Lib.hid fun h y hy => by
        rcases Nat.lt_or_ge y x with h1 | h1
        · exact HNO.out y h1
        · obtain rfl : y = x := by omega
          exact h
      have HV : Hid ((!usedO o r x) = decide (o r x < 0)) := Lib.hid (by
        unfold usedO
        by_cases h : o r x < 0
        · rw [decide_eq_true h, decide_eq_false (by omega)]; rfl
        · rw [decide_eq_false h, decide_eq_true (by omega)]; rfl)
      generalize usedO o r x = ux at *
      clear hno hk' hu
      go_wp2
      go_loopw [16, 15] (fun ii oi wi => ∃ i : Nat, i ≤ r ∧ ii = .int .i64 (i : Int) ∧ oi = .bool (!ux && rokT b l x i) ∧ ∃ q, wi = wr.drewN q) (fun ii _ _ => r - (intOf ii).toNat)
      case atStart => exact ⟨0, by omega, rfl, by rw [HR0.out, Bool.and_true], 0, rfl⟩
      case round => as_aux_lemma =>
        obtain ⟨i, hir, rfl, rfl, q, rfl⟩ := hrel
        by_cases hi : i < r
        · have HN := Lib.hid (HROK.out x i)
          have hxi := HLN.out i (by have := HRL.out; omega)
          obtain ⟨a1, o1, eA1, hc1⟩ := (HKA.out wr HK.out).at_ hi
          injection eA1 with eA1
          injection eA1 with eA2 eA3
          subst eA2 eA3
          rw [zs_get] at hc1
          have HBB := HBED.out.below (HKB.out wr HK.out)
          obtain ⟨g2, o2, eB, B2, d2, hc2, _, _, hi2⟩ := HBB.at_ (show i < n by omega)
          obtain ⟨g3, o3, eB3, B3, d3, hc3, _, _, hi3⟩ := HBB.at_ hrn
          rw [eB] at eB3
          injection eB3 with eB3
          injection eB3 with e1 e2
          subst e1 e2
          rw [HROW.out i (by omega)] at hc2 hi2
          rw [HROW.out r hrn] at hc3 hi3
          obtain ⟨g4, o4, rfl, hc4⟩ := hi2.at_ hxi
          obtain ⟨g5, o5, rfl, hc5⟩ := hi3.at_ hxn
          have hg4 : (b.getD i []).getD (l.getD i 0) 0 = gAt b i (l.getD i 0) := rfl
          have hg5 : (b.getD r []).getD x 0 = gAt b r x := rfl
          rw [hg4] at hc4
          rw [hg5] at hc5
          subst eB
          generalize gAt b i (l.getD i 0) = u at *
          generalize gAt b r x = v at *
          generalize l.getD i 0 = y at *
          have i0 : (0 : Int) ≤ (i : Int) := by omega
          have ir : (i : Int) < (r : Int) := by omega
          have inn : (i : Int) < (n : Int) := by omega
          have y0 : (0 : Int) ≤ (y : Int) := by omega
          have yn : (y : Int) < (n : Int) := by omega
          clear hi2 hi3 HBB c1 c2
          cases hf : (!ux && rokT b l x i)
          · have HN' : Hid ((!ux && rokT b l x (i + 1)) = false) := Lib.hid (by rw [HN.out, ← Bool.and_assoc, hf, Bool.false_and])
            clear hf HN
            go_wp2
            go_quiet (fail)
            go_wp2
            go_roundw
            case rel => exact ⟨i + 1, by omega, by go_num, by rw [HN'.out], by first | exact ⟨_, rfl⟩ | exact ⟨_, World.drewN_drewN _ _ _⟩⟩
            case measure => simp [intOf]; omega
          · by_cases h1 : y = x
            · have hq1 : ((y : Int) != (x : Int)) = false := by simp; omega
              have HN' : Hid ((!ux && rokT b l x (i + 1)) = false) := Lib.hid (by rw [HN.out, decide_eq_false (by simpa using h1), Bool.false_and, Bool.and_false, Bool.and_false])
              clear HN h1 hf
              go_wp2
              go_quiet (fail)
              go_wp2
              go_roundw
              case rel => exact ⟨i + 1, by omega, by go_num, by rw [HN'.out], by first | exact ⟨_, rfl⟩ | exact ⟨_, World.drewN_drewN _ _ _⟩⟩
              case measure => simp [intOf]; omega
            · have hq1 : ((y : Int) != (x : Int)) = true := by simp; omega
              have HN' : Hid ((!ux && rokT b l x (i + 1)) = (u != v)) := Lib.hid (by
                rw [HN.out, ← Bool.and_assoc, hf, Bool.true_and, decide_eq_true (by simpa using h1), Bool.true_and]
                by_cases h2 : u = v
                · simp [h2]
                · simp [h2])
              clear HN h1 hf
              go_wp2
              go_quiet (fail)
              go_wp2
              go_roundw
              case rel => exact ⟨i + 1, by omega, by go_num, by rw [HN'.out], by first | exact ⟨_, rfl⟩ | exact ⟨_, World.drewN_drewN _ _ _⟩⟩
              case measure => simp [intOf]; omega
        · obtain rfl : i = r := by omega
          have HOKx := HOK.out x hxn
          rw [HOKx]
          cases hok : (!ux && okT b l x)
          · have HE := Lib.hid (HNX.out (by rw [← HV.out, hok, Bool.false_and]))
            clear hok HOKx c1 c2
            go_wp2
            go_roundw
            case rel => exact ⟨x + 1, by omega, by go_num, HE.out, HK.out.likeU rfl rfl rfl rfl, HUr.out.heap rfl⟩
            case measure => simp [intOf]; omega
          · have hok2 := hok
            rw [Bool.and_eq_true] at hok2
            obtain ⟨ho1, ho2⟩ := hok2
            rw [HV.out] at ho1
            have hneg : o i x < 0 := of_decide_eq_true ho1
            obtain ⟨N, hN⟩ : ∃ z, z = partF b n f k o j (l ++ [x]) := ⟨_, rfl⟩
            have HHIT : Hid (N = true → partF b n f k o (j + 1) l = true) := Lib.hid fun h => by
              rw [HR.out]
              exact any_range_hit hxn (by rw [ho1, ho2, ← hN, h]; rfl)
            have HMISS : Hid (N = false → ∀ y, y < x + 1 → (decide (o i y < 0) && okT b l y && partF b n f k o j (l ++ [y])) = false) := Lib.hid fun h => HNX.out (by rw [← hN, h, Bool.and_false])
            have HFR2 : Hid (∀ p, p < (l ++ [x]).length → o p ((l ++ [x]).getD p 0) < 0) := Lib.hid fun p hp => by
              rw [List.length_append, List.length_singleton] at hp
              rcases Nat.lt_or_ge p l.length with h3 | h3
              · rw [getD_app1 h3]; exact HFREE.out p h3
              · obtain rfl : p = l.length := by omega
                rw [getD_app2, ← HRL.out]; exact hneg
            obtain ⟨wq, hwq⟩ : ∃ z, z = wr.drewN q := ⟨_, rfl⟩
            have KQ : Hid (Kept (fun _ i => OwnU n gr i) w wq) := Lib.hid (by rw [hwq]; exact HK.out.likeU rfl rfl rfl rfl)
            have UQ : Hid (UsedM wq gU gr n (usedO o)) := Lib.hid (by rw [hwq]; exact HUr.out.heap rfl)
            have HIQ := Lib.hid (HKA.out wq KQ.out)
            have hcn := cell_new wq #[.int .i64 (x : Int)] 3 0
            have IHX := Lib.hid (HIH.out x hxn)
            have HNN := Lib.hid hN
            rw [← hwq]
            clear hok HOKx c1 c2 ho1 ho2 hneg hwq hN
            go_wp2_with (at_builtin; refine wpList_growI (by kernel_rfl) (.tmp 113) (.tmp 115) rfl (some ⟨gA, oA, none⟩) i l rfl HRL.out.symm (fun h => by cases h) ?hi wq.heap.size 1 x rfl hcn (by omega) ?hr)
            case hi => exact HIQ.out.below (below_alloc wq _)
            case hr =>
              intro A2 c2 w3 hin2 hne2 hc2 hb2
              rw [show wq.heap.size + 1 = (wq.alloc (.cells #[.int .i64 (x : Int)] 3)).heap.size from by simp] at hin2 hb2
              have UA := UQ.out.below (below_alloc wq (.cells #[.int .i64 (x : Int)] 3))
              have K3 := Lib.hid (keptU_below (keptU_below KQ.out (below_alloc wq (.cells #[.int .i64 (x : Int)] 3))) hb2)
              have U3 := Lib.hid (UA.below hb2)
              have hint : IntsN (fun _ i => OwnU n gr i) w3 A2 (l ++ [x]) := ⟨hin2.1, fun g o' e ⟨p, hp, e2⟩ => hin2.2 g o' e (by
                have h := lt_of_cell (UA.val p 0 hp (by omega))
                rw [e2]; exact h)⟩
              have K69 := IHX.out o A2 c2 w3 HS.out U3.out (HKB.out w3 K3.out) hint (by rw [List.length_append, ← HRL.out]; exact hc2) HFR2.out
              have el : (l ++ [x]).length = i + 1 := by rw [List.length_append, ← HRL.out]; rfl
              rw [el, ← HNN.out] at K69
              have K69 := Lib.hid K69
              clear hin2 hne2 hc2 hb2 UA hint hcn el
              go_wp2_with fail
              refine K69.out.mono ?_
              rintro e w4 ⟨rfl, hk4, hu4⟩
              have K4 := Lib.hid (K3.out.trans hk4)
              have U4 := Lib.hid hu4
              clear hk4 hu4 K69 HNN
              cases N
              · have HE := Lib.hid (HMISS.out rfl)
                go_wp2
                go_roundw
                case rel => exact ⟨x + 1, by omega, by go_num, HE.out, K4.out, U4.out⟩
                case measure => simp [intOf]; omega
              · have HE := Lib.hid (HHIT.out rfl)
                go_wp2
                go_ret
                exact ⟨ret_bool HE.out.symm, K4.out, U4.out⟩
    · obtain rfl : x = n := by omega
      have HF : Hid (partF b x f k o (j + 1) l = false) := Lib.hid (by rw [HR.out]; exact any_range_miss HNO.out)
      clear hno hk' hu
      go_wp2
      go_ret
      exact ⟨ret_bool HF.out.symm, HK.out, HUr.out⟩
end
end Go.Proofs.YtiodednhadnekaaDoor

namespace Go.Proofs.YtiodednhadnekaaDoor
open Go.RowKit Go.Deep
attribute [local go_sem ↓] Go.wp_at_zero Go.wp_at_succ

section
variable (n : Nat) (b : List (List Int)) (w0 : World) (B : Option Addr) (cb gU cU : Nat) (gr : Nat → Nat)
set_option maxHeartbeats 2000000 in
theorem f23_end : PartsC n b w0 B cb gU cU gr 0 n := by
  intro o w _ hU _
  have HU := Lib.hid hU
  have HR : Hid (mtAny n (trans b n) 0 n o = true) := rfl
  have hq : ((n : Int) == (n : Int)) = true := by simp
  clear hU
  go_enter Tryd.func23, Tryd.ntmps23
  go_wp2
  go_ret
  exact ⟨ret_bool HR.out.symm, Kept.refl _ _, HU.out⟩
set_option maxHeartbeats 2000000 in
theorem f23_step (hn5 : n ≤ 5) (f k : Nat) (hk : k < n) (ih : PartC n b w0 B cb gU cU gr f k (n - 1) [k]) : PartsC n b w0 B cb gU cU gr (f + 1) k := by
  intro o w hS hU hbel
  have h0 : o 0 k < 0 := (hS.top k hk).2 (Nat.le_refl _)
  have HR : Hid (mtAny n (trans b n) (f + 1) k o = partF b n f k o (n - 1) [k]) := mtAny_part b n f k o hk h0
  have hq : ((k : Int) == (n : Int)) = false := by simp; omega
  have HNEW : Own (w.alloc (.cells #[.int .i64 (k : Int)] 3)) w.heap.size [(k : Int)] := heap_alloc_new w _
  have hint : IntsN (fun _ i => OwnU n gr i) (w.alloc (.cells #[.int .i64 (k : Int)] 3)) (some ⟨w.heap.size, 0, none⟩) [k] := ⟨HNEW.ints' rfl (by show 1 ≤ _; omega), fun g o' e ⟨p, hp, e2⟩ => by
    injection e with e
    injection e with e3 _
    have h := lt_of_cell (hU.val p 0 hp (by omega))
    have h : gr p < w.heap.size := h
    omega⟩
  have K69 : Hid (Calls Tryd.prog 69 #[.slice B n cb, .slice (some ⟨gU, 0, none⟩) n cU, .int .i64 (k : Int), .slice (some ⟨w.heap.size, 0, none⟩) 1 1] (w.alloc (.cells #[.int .i64 (k : Int)] 3)) fun e w' => e = .returned (.bool (partF b n f k o (n - 1) [k])) ∧ Kept (fun _ i => OwnU n gr i) (w.alloc (.cells #[.int .i64 (k : Int)] 3)) w' ∧ UsedM w' gU gr n (usedO o)) :=
    Lib.hid (ih o (some ⟨w.heap.size, 0, none⟩) 1 (w.alloc (.cells #[.int .i64 (k : Int)] 3)) hS (hU.below (below_alloc w _)) (hbel.alloc hbel.size _) hint (Nat.le_refl _) (fun i hi => by
      have hi : i < 1 := hi
      obtain rfl : i = 0 := by omega
      exact h0))
  have HK := Lib.hid (keptU_below (Kept.refl (fun _ i => OwnU n gr i) w) (below_alloc w (.cells #[.int .i64 (k : Int)] 3)))
  clear hS hU hbel HNEW hint ih h0
  go_enter Tryd.func23, Tryd.ntmps23
  go_wp2_with fail
  refine K69.out.mono ?_
  rintro e w2 ⟨rfl, h1, h2⟩
  have K2 := Lib.hid (HK.out.trans h1)
  have U2 := Lib.hid h2
  clear h1 h2 K69
  go_wp2
  go_ret
  exact ⟨ret_bool HR.out.symm, K2.out, U2.out⟩
/-- dibberlaw01.part -/
theorem f69_any (hb : IsFull n b) (hs : Beds w0 B n cb b) (hn : 0 < n) (hn5 : n ≤ 5) (hgr : ∀ r, r < n → w0.heap.size ≤ gr r) (f k : Nat) (hk : k < n) (ih : PartsC n b w0 B cb gU cU gr f (k + 1)) : ∀ (j : Nat) (l : List Nat), l.length + j = n → 0 < l.length → l.getD 0 0 = k → (∀ i, i < l.length → l.getD i 0 < n) → PartC n b w0 B cb gU cU gr f k j l
  | 0, l, h, h1, h2, h3 => f69_end n b w0 B cb gU cU gr hn hn5 hgr f k hk l (by omega) h2 (fun i hi => h3 i (by omega)) ih
  | j + 1, l, h, h1, h2, h3 => f69_step n b w0 B cb gU cU gr hb hs hn5 hgr f k hk j l h h1 h3 fun c hc => f69_any hb hs hn hn5 hgr f k hk ih j (l ++ [c]) (by simp; omega) (by simp) (by rw [getD_app1 h1]; exact h2) (fun i hi => by
      rw [List.length_append, List.length_singleton] at hi
      rcases Nat.lt_or_ge i l.length with h4 | h4
      · rw [getD_app1 h4]; exact h3 i h4
      · obtain rfl : i = l.length := by omega
        rw [getD_app2]; exact hc)
/-- dibberlaw01.parts -/
theorem f23_any (hb : IsFull n b) (hs : Beds w0 B n cb b) (hn : 0 < n) (hn5 : n ≤ 5) (hgr : ∀ r, r < n → w0.heap.size ≤ gr r) : ∀ (f k : Nat), k + f = n → PartsC n b w0 B cb gU cU gr f k
  | 0, k, h => by
    obtain rfl : k = n := by omega
    exact f23_end k b w0 B cb gU cU gr
  | f + 1, k, h => f23_step n b w0 B cb gU cU gr hn5 f k (by omega) (f69_any n b w0 B cb gU cU gr hb hs hn hn5 hgr f k (by omega) (f23_any hb hs hn hn5 hgr f (k + 1) (by omega)) (n - 1) [k] (by simp; omega) (by simp) rfl (fun i hi => by
      have hi : i < 1 := hi
      obtain rfl : i = 0 := by omega
      show k < n
      omega))
end
end Go.Proofs.YtiodednhadnekaaDoor

namespace Go.Proofs.YtiodednhadnekaaDoor
open Go.RowKit Go.Deep
attribute [local go_sem ↓] Go.wp_at_zero Go.wp_at_succ

theorem make_bools (n : Nat) (hn : n ≤ 1000000) (W : World) : (Instr.makeSlice 31 (.int .i64 (n : Int)) (.int .i64 (n : Int))).run Tryd.prog W =
    .ok (.slice (some ⟨W.heap.size, 0, none⟩) n n) (W.alloc (.cells (List.replicate n (Value.bool false)).toArray 4)) := by
  obtain ⟨i0, hi, hz0, hz1, hz2⟩ := info_parts (show (Tryd.prog.info? 4).map (fun i => (i.zero, i.size, i.bytes)) = some (some (.bool false), 1, 1) from by kernel_rfl)
  have hr := run_make (P := Tryd.prog) W 31 4 i0 (.bool false) Tryd.underlying31 hi hz0 .i64 .i64 n n (by omega) (by omega) (by rw [hz2]; omega) (by omega)
  have e : madeCells (Value.bool false).cells ((n : Int).toNat * i0.size) = (List.replicate n (Value.bool false)).toArray := by
    rw [hz1, Nat.mul_one, Int.toNat_natCast]
    apply Array.toList_inj.1
    exact (toList_madeCells_one _ _).trans (by simp)
  exact hr.trans (by rw [e, Int.toNat_natCast])
/-- A row of slices of bools. -/
def RowU (w : World) (base : Nat) (v : Value) (vs : List Value) : Prop := w.ownsRow base 31 1 v vs.length vs
def mkU (n : Nat) (G : List Nat) : List Value := G.map fun g => Value.slice (some ⟨g, 0, none⟩) n n
theorem wpList_pushU {w : World} {ops : Array Oper} {rest : List Oper} {o : Oper} {a : Act} {Q : Exit → Act → World → Prop} (hgd : o.guard = none) (s x : Operand)
    (ho : o.op = .call { callee := .builtin .append, args := #[s, x], argTypes := #[30, 30] })
    (base : Nat) (v : Value) (vs : List Value) (hs : a.eval s = v) (hrow : RowU w base v vs) (g c : Nat) (B : Option Addr) (bn bc : Nat) (hx : a.eval x = .slice (some ⟨g, 0, none⟩) 1 c)
    (hc : w.cell? ⟨g, 0, none⟩ = some (.slice B bn bc)) (hl : vs.length ≤ 1000000) (hb : base ≤ w.heap.size)
    (h : ∀ g' c' w', RowU w' base (.slice (some ⟨g', 0, none⟩) (vs.length + 1) c') (vs ++ [.slice B bn bc]) → w.grownBy w' v.ownBlock → wpList Tryd.prog ops Q rest (a.put o.dst (.slice (some ⟨g', 0, none⟩) (vs.length + 1) c')) w') : wpList Tryd.prog ops Q (o :: rest) a w := by
  obtain ⟨i0, hi, hz0, hz1, hz2⟩ := info_parts (show (Tryd.prog.info? 31).map (fun i => (i.zero, i.size, i.bytes)) = some (some (.slice none 0 0), 1, 24) from by kernel_rfl)
  refine wpList_append_lies w hgd s x 30 ho base 31 i0 (.slice none 0 0) 1 24 Tryd.underlying30 hi hz0 hz1 hz2 rfl (by decide) v vs.length vs hs hrow ⟨g, 0, none⟩ 1 c [.slice B bn bc] hx rfl ?_ ?_ (by omega) ?_ ?_ hb _ rfl ?_
  · intro j u hj
    match j, hj with
    | 0, hj => simp at hj; subst hj; simpa [Addr.add] using hc
  · intro u hu; simp at hu; subst hu; rfl
  · unfold maxLen; omega
  · omega
  · intro g' cap w' h1 h2 _ _
    exact h g' cap w' (by unfold RowU; simpa using h1) h2
/-- What is used, as far as it is made. -/
def UsI (w : World) (base n : Nat) (v : Value) (G : List Nat) : Prop := RowU w base v (mkU n G) ∧ (∀ j, j < G.length → w.heap[G.getD j 0]? = some (.cells (List.replicate n (Value.bool false)).toArray 4 (0, 0)) ∧ base ≤ G.getD j 0) ∧ ∀ i j, i < j → j < G.length → G.getD i 0 < G.getD j 0
theorem UsI.push {w w1 w' : World} {base n : Nat} {v v' : Value} {G : List Nat} {g : Nat} (h : UsI w base n v G) (hb : Below w.heap.size w w1) (hg1 : w1.heap[g]? = some (.cells (List.replicate n (Value.bool false)).toArray 4 (0, 0))) (hge : w.heap.size ≤ g) (hbase : base ≤ w.heap.size) (hg : w1.grownBy w' v.ownBlock) (hr : RowU w' base v' (mkU n (G ++ [g]))) : UsI w' base n v' (G ++ [g]) := by
  obtain ⟨h1, h2, h3⟩ := h
  have hlt : ∀ j, j < G.length → G.getD j 0 < w.heap.size := fun j hj => by
    rcases Nat.lt_or_ge (G.getD j 0) w.heap.size with h | h
    · exact h
    · have := (h2 j hj).1; rw [Array.getElem?_eq_none h] at this; cases this
  have hgl : g < w1.heap.size := by
    rcases Nat.lt_or_ge g w1.heap.size with h | h
    · exact h
    · rw [Array.getElem?_eq_none h] at hg1; cases hg1
  have hown : ∀ p, w.heap[p]? = some (.cells (List.replicate n (Value.bool false)).toArray 4 (0, 0)) → some p ≠ v.ownBlock := fun p hp e => by
    rcases h1.2 with ⟨e2, _⟩ | ⟨g', cap, cur, e2, _, hh, _⟩
    · rw [e2] at e; simp [Value.ownBlock] at e
    · have hg : g' = p := by rw [e2] at e; simpa [Value.ownBlock] using e.symm
      subst hg
      rw [hh] at hp
      injection hp with hp
      injection hp with _ hp
      exact absurd hp (by decide)
  have e1 : ∀ j, j < G.length → (G ++ [g]).getD j 0 = G.getD j 0 := fun j hj => by
    rw [List.getD_eq_getElem?_getD, List.getElem?_append_left hj, ← List.getD_eq_getElem?_getD]
  have e2 : (G ++ [g]).getD G.length 0 = g := by simp [List.getD_eq_getElem?_getD]
  refine ⟨hr, fun j hj => ?_, fun i j hij hj => ?_⟩
  · rw [List.length_append, List.length_singleton] at hj
    by_cases e : j = G.length
    · subst e
      rw [e2]
      refine ⟨(hg.block g hgl (fun e3 => ?_)).trans hg1, Nat.le_trans hbase hge⟩
      have := World.ownsRow.lt h1 g e3.symm
      omega
    · rw [e1 j (by omega)]
      have h4 := h2 j (by omega)
      exact ⟨((hg.block _ (Nat.lt_of_lt_of_le (hlt j (by omega)) hb.size) (hown _ h4.1)).trans (hb.block _ (hlt j (by omega)))).trans h4.1, h4.2⟩
  · rw [List.length_append, List.length_singleton] at hj
    by_cases e : j = G.length
    · subst e
      rw [e2, e1 i hij]
      have := hlt i hij
      omega
    · rw [e1 j (by omega), e1 i (by omega)]
      exact h3 i j hij (by omega)
theorem UsI.used {w : World} {base n : Nat} {v : Value} {G : List Nat} (h : UsI w base n v G) (hG : G.length = n) (hn : 0 < n) : ∃ gU c, v = .slice (some ⟨gU, 0, none⟩) n c ∧ UsedM w gU (fun r => G.getD r 0) n (usedO (fun _ _ => -1)) := by
  obtain ⟨h1, h2, h3⟩ := h
  have hl : (mkU n G).length = n := by simp [mkU, hG]
  rcases h1.2 with ⟨_, hn0⟩ | ⟨gU, cap, cur, e, hb, hh, hc, _, _, ht⟩
  · omega
  rw [hl] at e hc ht
  refine ⟨gU, cap, e, fun r hr => ?_, fun r c hr hc => ?_, fun r hr => ⟨_, (h2 r (by omega)).1⟩, fun r s hr hs e2 => ?_⟩
  · rw [cell_of_row w gU r cur 31 (0, 0) hh]
    rw [Nat.mul_one] at ht
    rw [← Array.getElem?_toList, ← List.getElem?_take_of_lt hr, ht]
    simp [mkU, List.getD_eq_getElem?_getD, show r < G.length by omega]
  · rw [cell_of_row w _ c _ 4 (0, 0) (h2 r (by omega)).1]
    simp [hc, usedO]
  · rcases Nat.lt_trichotomy r s with h | h | h
    · have h4 := h3 r s h (by omega); have e3 : G.getD r 0 = G.getD s 0 := e2; omega
    · exact h
    · have h4 := h3 s r h (by omega); have e3 : G.getD r 0 = G.getD s 0 := e2; omega
end Go.Proofs.YtiodednhadnekaaDoor

namespace Go.Proofs.YtiodednhadnekaaDoor
open Go.RowKit Go.Deep
attribute [local go_sem ↓] Go.wp_at_zero Go.wp_at_succ

theorem mate_parts {b : List (List Int)} {n : Nat} (hok : mateOk b) (hn : 0 < n) (hl : b.length = n) : mateE b = if mtAny n (trans b n) n 0 (fun _ _ => -1) = true then 0 else 10 := by
  unfold mateE mateL
  rw [if_pos hok, if_pos hok, hl]
  have h := mtF_any hn (trans b n) n 0 (fun _ _ => -1) []
  cases hm : mtAny n (trans b n) n 0 (fun _ _ => -1)
  · rw [if_pos (h.2 ⟨rfl, hm⟩)]; rfl
  · rw [if_neg fun e => by have := (h.1 e).2; rw [hm] at this; cases this]; rfl
set_option maxRecDepth 100000 in
set_option maxHeartbeats 8000000 in
/-- dibberlaw01.BedParted -/
theorem f4_any (A : Option Addr) (n c : Nat) (b : List (List Int)) (w : World) (hs : CameB w A n c b) (ht : Tab w) :
    Calls Tryd.prog 4 #[.slice A n c] w fun e w' => e = .returned (.bool true) ∧ Below w.heap.size w w' := by
  have K16 := Lib.hid (f16_any A c n (b.map List.length) w hs.1)
  have HT := Lib.hid ht
  have K17 := Lib.hid (f17_any w ht)
  cases hf : fewB (b.map List.length)
  · rw [hf] at K16
    clear hs hf ht
    go_enter Tryd.func4, Tryd.ntmps4
    go_wp2_with fail
    refine K16.out.mono ?_
    rintro e w1 ⟨rfl, rfl⟩
    go_wp2_with fail
    refine K17.out.mono ?_
    rintro e w2 ⟨rfl, hb⟩
    have HB := Lib.hid hb
    clear hb
    go_wp2
    go_ret
    exact ⟨rfl, HB.out⟩
  rw [hf] at K16
  have hB := hs.beds hf
  have HB := Lib.hid hB
  have hbl := hB.len
  have hsm := hB.small
  have K21 := Lib.hid (f21_any A n c b w hB)
  cases hfull : fullB b
  · rw [hfull] at K21
    clear hs hf ht hB hfull
    go_enter Tryd.func4, Tryd.ntmps4
    go_wp2_with fail
    refine K16.out.mono ?_
    rintro e w1 ⟨rfl, rfl⟩
    go_wp2_with fail
    refine K21.out.mono ?_
    rintro e w1 ⟨rfl, rfl⟩
    go_wp2_with fail
    refine K17.out.mono ?_
    rintro e w2 ⟨rfl, hb⟩
    have HB := Lib.hid hb
    clear hb
    go_wp2
    go_ret
    exact ⟨rfl, HB.out⟩
  rw [hfull] at K21
  by_cases h5 : 5 < n
  · clear hs hf ht hB hfull
    go_enter Tryd.func4, Tryd.ntmps4
    go_wp2_with fail
    refine K16.out.mono ?_
    rintro e w1 ⟨rfl, rfl⟩
    go_wp2_with fail
    refine K21.out.mono ?_
    rintro e w1 ⟨rfl, rfl⟩
    go_wp2_with fail
    refine K17.out.mono ?_
    rintro e w2 ⟨rfl, hb⟩
    have HB := Lib.hid hb
    clear hb
    go_wp2
    go_ret
    exact ⟨rfl, HB.out⟩
  obtain ⟨hn1, hn7, hF⟩ := fullB_iff.1 hfull
  rw [hbl] at hn1 hn7 hF
  have HF := Lib.hid hF
  have HM := Lib.hid (mate_parts (b := b) (n := n) ⟨hfull, by omega⟩ hn1 hbl)
  have hmk := make_bools n (by omega)
  have U0 : Hid (UsI w w.heap.size n (.slice none 0 0) []) := ⟨World.ownsRow_nil w _ 31 1, fun j hj => absurd hj (by simp), fun i j _ hj => absurd hj (by simp)⟩
  clear hs hf ht hB hfull hF K17
  go_enter Tryd.func4, Tryd.ntmps4
  go_wp2_with fail
  refine K16.out.mono ?_
  rintro e w1 ⟨rfl, rfl⟩
  go_wp2_with fail
  refine K21.out.mono ?_
  rintro e w1 ⟨rfl, rfl⟩
  go_wp2
  go_loopw [4, 3] (fun ii u wr => ∃ (r : Nat) (v : Value) (G : List Nat), r ≤ n ∧ ii = .int .i64 (r : Int) ∧ v = u ∧ G.length = r ∧ UsI wr w.heap.size n v G ∧ Below w.heap.size w wr) (fun ii _ _ => n - (intOf ii).toNat)
  case atStart => exact ⟨0, _, [], by omega, rfl, rfl, rfl, U0.out, Below.refl _ _⟩
  case round => as_aux_lemma =>
    obtain ⟨r, v, G, hr, rfl, rfl, hG, hu, hbel⟩ := hrel
    have HU := Lib.hid hu
    have HBL := Lib.hid hbel
    have HG := Lib.hid hG
    by_cases hrn : r < n
    · have r0 : (0 : Int) ≤ (r : Int) := by omega
      have rn : (r : Int) < (n : Int) := by omega
      obtain ⟨wa, hwa⟩ : ∃ z, z = (wr.alloc (.cells (List.replicate n (Value.bool false)).toArray 4)).alloc (.cells #[.slice (some ⟨wr.heap.size, 0, none⟩) n n] 31) := ⟨_, rfl⟩
      have BA : Hid (Below wr.heap.size wr wa) := Lib.hid (by rw [hwa]; exact below_alloc2 wr _ _)
      have s1 : (wr.alloc (.cells (List.replicate n (Value.bool false)).toArray 4)).heap.size = wr.heap.size + 1 := by simp
      have hca : wa.cell? ⟨wr.heap.size + 1, 0, none⟩ = some (.slice (some ⟨wr.heap.size, 0, none⟩) n n) := by
        have h := heap_alloc_new (wr.alloc (.cells (List.replicate n (Value.bool false)).toArray 4)) (.cells #[.slice (some ⟨wr.heap.size, 0, none⟩) n n] 31)
        rw [← hwa, s1] at h
        rw [cell_of_row _ _ 0 _ _ _ h]; rfl
      have HGA : Hid (wa.heap[wr.heap.size]? = some (.cells (List.replicate n (Value.bool false)).toArray 4 (0, 0))) := Lib.hid (by
        rw [hwa]
        exact (Below.heap_alloc _ _ wr.heap.size (by omega)).trans (heap_alloc_new wr _))
      have HSZ : Hid (w.heap.size ≤ wr.heap.size) := hbel.size
      have HROW : Hid (RowU wa w.heap.size v (mkU n G)) := Lib.hid (World.ownsRow.kept hu.1 (grown_below BA.out none) (by cases hv : v.ownBlock <;> simp))
      have HMK : Hid (mkU n G ++ [.slice (some ⟨wr.heap.size, 0, none⟩) n n] = mkU n (G ++ [wr.heap.size])) := Lib.hid (by simp [mkU])
      have hml : (mkU n G).length ≤ 1000000 := by simp [mkU]; omega
      simp only [List.toArray_replicate] at hwa
      clear hu hbel hG s1
      go_wp2_with (at_builtin; rw [← hwa]; refine wpList_pushU rfl (.tmp 27) (.tmp 31) rfl w.heap.size v (mkU n G) rfl HROW.out (wr.heap.size + 1) 1 (some ⟨wr.heap.size, 0, none⟩) n n rfl hca hml (Nat.le_trans HSZ.out BA.out.size) ?hr)
      case hr =>
        intro g' c' w3 hr3 hg3
        rw [← hwa] at hg3
        rw [HMK.out] at hr3
        have HU3 := Lib.hid (HU.out.push BA.out HGA.out (Nat.le_refl _) HSZ.out hg3 hr3)
        have HB3 : Hid (Below w.heap.size w w3) := Lib.hid ((HBL.out.trans (BA.out.mono HSZ.out)).grown hg3 (Nat.le_trans HSZ.out BA.out.size) fun k hk => (World.ownsRow.lt HROW.out k hk).1)
        have HG3 : Hid ((G ++ [wr.heap.size]).length = r + 1) := Lib.hid (by rw [List.length_append, HG.out]; rfl)
        generalize (mkU n G).length + 1 = len3 at *
        clear hr3 hg3
        go_wp2
        go_roundw
        case rel => exact ⟨r + 1, _, G ++ [wr.heap.size], by omega, by go_num, rfl, HG3.out, HU3.out, HB3.out⟩
        case measure => simp [intOf]; omega
    · obtain rfl : r = n := by omega
      obtain ⟨gU, cU, rfl, hused⟩ := hu.used hG hn1
      have HUS := Lib.hid hused
      have HLOW : Hid (∀ q, q < r → w.heap.size ≤ G.getD q 0) := Lib.hid fun q hq => (hu.2.1 q (by omega)).2
      have K22 := Lib.hid (f22_any A r c b wr (HB.out.below hbel))
      clear hu hbel hG hused
      go_wp2_with fail
      refine K22.out.mono ?_
      rintro e w4 ⟨A4, k4, c4, rfl, _, hb4⟩
      have HB4 := Lib.hid (HBL.out.trans (hb4.mono HBL.out.size))
      have K23 : Hid (Calls Tryd.prog 23 #[.slice A r c, .slice (some ⟨gU, 0, none⟩) r cU, .int .i64 0] w4 fun e w' => e = .returned (.bool (mtAny r (trans b r) r 0 (fun _ _ => -1))) ∧ Kept (fun _ i => OwnU r (fun q => G.getD q 0) i) w4 w' ∧ UsedM w' gU (fun q => G.getD q 0) r (usedO (fun _ _ => -1))) := Lib.hid (f23_any r b w A c gU cU (fun q => G.getD q 0) HF.out HB.out hn1 (by omega) HLOW.out r 0 (by omega) (fun _ _ => -1) w4 ⟨fun _ _ => .inl rfl, fun c _ => ⟨fun _ => Nat.zero_le _, fun _ => by omega⟩⟩ (HUS.out.below hb4) HB4.out)
      clear hb4 K22
      generalize mtAny r (trans b r) r 0 (fun _ _ => -1) = P at *
      have HKB : Hid (∀ w', Kept (fun _ i => OwnU r (fun q => G.getD q 0) i) w4 w' → Below w.heap.size w w') := Lib.hid fun w' k => k.below HB4.out HB4.out.size (fun i ⟨q, hq, e⟩ => by rw [e]; exact HLOW.out q hq)
      cases P
      · have HE : Hid (mateE b = 10) := HM.out
        rw [HE.out]
        go_wp2_with fail
        refine K23.out.mono ?_
        rintro e w5 ⟨rfl, hk5, _⟩
        have HB5 := Lib.hid (HKB.out w5 hk5)
        clear hk5
        go_wp2_with fail
        refine (f17_any w5 (HT.out.below HB5.out)).mono ?_
        rintro e w6 ⟨rfl, hb6⟩
        have HB6 := Lib.hid (HB5.out.trans (hb6.mono HB5.out.size))
        clear hb6
        go_wp2
        go_ret
        exact ⟨rfl, HB6.out⟩
      · have HE : Hid (mateE b = 0) := HM.out
        rw [HE.out]
        go_wp2_with fail
        refine K23.out.mono ?_
        rintro e w5 ⟨rfl, hk5, _⟩
        have HB5 := Lib.hid (HKB.out w5 hk5)
        clear hk5
        go_wp2_with fail
        refine (f17_any w5 (HT.out.below HB5.out)).mono ?_
        rintro e w6 ⟨rfl, hb6⟩
        have HB6 := Lib.hid (HB5.out.trans (hb6.mono HB5.out.size))
        clear hb6
        go_wp2
        go_ret
        exact ⟨rfl, HB6.out⟩
end Go.Proofs.YtiodednhadnekaaDoor
