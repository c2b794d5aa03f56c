/- Plain: the polynomial of a garden. Words: a polynomial in memory. Walks: its value. Walks: powers, sums and products of polynomials. Walks: a polynomial times x; the sum of two. Walks: the sum of two polynomials. Walks: the fences without one. Walks: the polynomial of a garden. Walk: the colourings of a triangle. -/
import Derived.Test.YtmepndnckcpgjaaGreatF3
import Derived.BigRegion
import Derived.Deep.RegionHeld
import Derived.Deep.MidRow
import Derived.Laws.IdiomCopy
import Derived.StillTailTactics
import Derived.Deep.DeepCutAuto
import Derived.Deep.RegionHeld3
import Derived.ArgAppend
import Derived.Lib.SliceRun
namespace Go.Proofs.YtmepndnckcpgjaaGreat
abbrev Tm := Nat → Nat → Int
def oneT : Tm := fun j i => if j = 0 ∧ i = 0 then 1 else 0
def plusT (a b : Tm) : Tm := fun j i => a j i + b j i
def txT (a : Tm) : Tm := fun j i => if i = 0 then 0 else a j (i - 1)
def tyT (a : Tm) : Tm := fun j i => if j = 0 then 0 else a (j - 1) i
def clF (f x : Int × Int) : Int × Int := (if x.1 = f.2 then f.1 else x.1, if x.2 = f.2 then f.1 else x.2)
def clL (fs : List (Int × Int)) : List (Int × Int) := fs.tail.map (clF (fs.getD 0 (0, 0)))
/-- the polynomial, by the power of y, and then of x. -/
def polyF (n : Nat) : Nat → List (Int × Int) → Tm
  | 0, _ => oneT
  | k + 1, fs => if (fs.getD 0 (0, 0)).1 = (fs.getD 0 (0, 0)).2 then tyT (polyF n k fs.tail) else if brB n fs 0 = true then txT (polyF n k (clL fs)) else plusT (polyF n k fs.tail) (polyF n k (clL fs))
theorem polyF_in (n : Nat) : ∀ k fs j i, 0 ≤ polyF n k fs j i ∧ polyF n k fs j i ≤ 2 ^ k
  | 0, fs, j, i => by
    simp only [polyF, oneT]
    split <;> omega
  | k + 1, fs, j, i => by
    have h2 : (2 : Int) ^ (k + 1) = 2 ^ k + 2 ^ k := by rw [Int.pow_succ]; omega
    have h0 : (0 : Int) < 2 ^ k := Int.pow_pos (by omega)
    rw [polyF]
    split
    · unfold tyT
      split
      · omega
      · have := polyF_in n k fs.tail (j - 1) i; omega
    · split
      · unfold txT
        split
        · omega
        · have := polyF_in n k (clL fs) j (i - 1); omega
      · unfold plusT
        have := polyF_in n k fs.tail j i
        have := polyF_in n k (clL fs) j i
        omega
theorem garE_iff {n : Nat} {fs : List (Int × Int)} : garE n fs = 0 ↔ (1 ≤ n ∧ n ≤ 8) ∧ fs.length ≤ 14 ∧ ∀ x ∈ fs, fB n x = false := by
  constructor
  · intro h
    obtain ⟨h1, h2, h3, _⟩ := garE_facts h
    refine ⟨⟨h1, h2⟩, h3, fun x hx => ?_⟩
    cases hv : fB n x
    · rfl
    · unfold garE at h
      rw [if_neg (by omega), if_neg (by omega), if_pos (List.any_eq_true.2 ⟨x, hx, hv⟩)] at h
      cases h
  · rintro ⟨h1, h2, h3⟩
    unfold garE
    rw [if_neg (by omega), if_neg (by omega), if_neg]
    intro h
    obtain ⟨x, hx, hv⟩ := List.any_eq_true.1 h
    rw [h3 x hx] at hv
    cases hv
theorem garE_tail {n : Nat} {fs : List (Int × Int)} (h : garE n fs = 0) : garE n fs.tail = 0 := by
  rw [garE_iff] at h ⊢
  refine ⟨h.1, ?_, fun x hx => h.2.2 x (List.mem_of_mem_tail hx)⟩
  rw [List.length_tail]
  have := h.2.1
  omega
theorem fB_no {n : Int} {x : Int × Int} : fB n x = false ↔ (0 ≤ x.1 ∧ x.1 < n) ∧ 0 ≤ x.2 ∧ x.2 < n := by
  unfold fB
  simp only [Bool.or_eq_false_iff, decide_eq_false_iff_not]
  omega
theorem garE_cl {n : Nat} {fs : List (Int × Int)} (h : garE n fs = 0) (hf : 0 < fs.length) : garE n (clL fs) = 0 := by
  rw [garE_iff] at h ⊢
  have hd : fs.getD 0 (0, 0) ∈ fs := by
    rw [List.getD_eq_getElem?_getD, List.getElem?_eq_getElem hf]
    exact List.getElem_mem hf
  have h0 := fB_no.1 (h.2.2 _ hd)
  refine ⟨h.1, ?_, fun x hx => ?_⟩
  · unfold clL
    rw [List.length_map, List.length_tail]
    have := h.2.1
    omega
  · unfold clL at hx
    obtain ⟨y, hy, rfl⟩ := List.mem_map.1 hx
    have h1 := fB_no.1 (h.2.2 _ (List.mem_of_mem_tail hy))
    rw [fB_no]
    unfold clF
    simp only
    constructor <;> split <;> omega
/-! ### the value -/
/-- one power of y, s terms from the highest on. -/
def rowF (T : Tm) (x : Int) (j : Nat) : Nat → Int
  | 0 => 0
  | s + 1 => rowF T x j s * x + T j (14 - s)
def outF (T : Tm) (x y : Int) : Nat → Int
  | 0 => 0
  | s + 1 => outF T x y s * y + rowF T x (14 - s) 15
/-- the numbers on the way are small. -/
def AtOk (T : Tm) (x y : Int) : Prop :=
  (∀ j, j < 15 → ∀ s, s < 15 → (-1152921504606846976 ≤ rowF T x j s * x ∧ rowF T x j s * x ≤ 1152921504606846976) ∧ -1152921504606846976 ≤ T j (14 - s) ∧ T j (14 - s) ≤ 1152921504606846976) ∧
  ∀ s, s < 15 → (-1152921504606846976 ≤ outF T x y s * y ∧ outF T x y s * y ≤ 1152921504606846976) ∧ -1152921504606846976 ≤ rowF T x (14 - s) 15 ∧ rowF T x (14 - s) 15 ≤ 1152921504606846976
/-! ### the triangle -/
def triL : List (Int × Int) := [(0, 1), (1, 2), (2, 0)]
def triT : Tm := fun j i => if j = 0 ∧ i = 2 then 1 else if j = 0 ∧ i = 1 then 1 else if j = 1 ∧ i = 0 then 1 else 0
theorem tri_gar : garE 3 triL = 0 := by decide
theorem tri_at : ∀ j, j < 15 → ∀ i, i < 15 → polyF 3 3 triL j i = triT j i := by decide +kernel
theorem rowF_congr {T U : Tm} {x : Int} {j : Nat} (h : ∀ i, i < 15 → T j i = U j i) : ∀ s, rowF T x j s = rowF U x j s
  | 0 => rfl
  | s + 1 => by rw [rowF, rowF, rowF_congr h s, h (14 - s) (by omega)]
theorem outF_congr {T U : Tm} {x y : Int} (h : ∀ j, j < 15 → ∀ i, i < 15 → T j i = U j i) : ∀ s, outF T x y s = outF U x y s
  | 0 => rfl
  | s + 1 => by rw [outF, outF, outF_congr h s, rowF_congr (h (14 - s) (by omega))]
theorem tri_ok : AtOk triT (-2) 0 := by unfold AtOk; decide +kernel
theorem tri_val : outF triT (-2) 0 15 = 2 := by decide +kernel
theorem tri_groups : groupsN 3 triL (allM 3) = 1 := by decide +kernel
theorem AtOk.congr {T U : Tm} {x y : Int} (h : ∀ j, j < 15 → ∀ i, i < 15 → T j i = U j i) (k : AtOk U x y) : AtOk T x y := by
  refine ⟨fun j hj s hs => ?_, fun s hs => ?_⟩
  · rw [rowF_congr (h j hj), h j hj (14 - s) (by omega)]
    exact k.1 j hj s hs
  · rw [outF_congr h, rowF_congr (h (14 - s) (by omega))]
    exact k.2 s hs
end Go.Proofs.YtmepndnckcpgjaaGreat

namespace Go.Proofs.YtmepndnckcpgjaaGreat
open Go.RowKit
/-- A block of N numbers, known whole. -/
def Blk (W : World) (o N : Nat) (ty : TypeId) (f : Nat → Int) : Prop := W.heap[o]? = some (.cells ((List.range N).map fun i => Value.int .i64 (f i)).toArray ty (0, 0))
section
variable {W W' : World} {o N : Nat} {ty : TypeId} {f g : Nat → Int}
theorem Blk.lt (h : Blk W o N ty f) : o < W.heap.size := lt_of_block h
theorem Blk.congr (h : Blk W o N ty f) (e : ∀ x, x < N → f x = g x) : Blk W o N ty g := by
  unfold Blk at h ⊢
  rw [h]
  have : ((List.range N).map fun i => Value.int .i64 (f i)) = (List.range N).map fun i => Value.int .i64 (g i) := List.map_congr_left fun i hi => by rw [e i (List.mem_range.1 hi)]
  rw [this]
theorem Blk.cell (h : Blk W o N ty f) {i : Nat} (hi : i < N) : W.cell? ⟨o, i, none⟩ = some (.int .i64 (f i)) := by
  rw [cell_of_row W o i _ ty (0, 0) h]
  simp [hi]
theorem Blk.frozen (h : Blk W o N ty f) (i : Nat) : W.frozen? ⟨o, i, none⟩ = false := by
  unfold Blk at h
  simp only [World.frozen?, h]
  rfl
theorem Blk.below (h : Blk W o N ty f) (hb : Below W.heap.size W W') : Blk W' o N ty f := (hb.block o h.lt).trans h
theorem Blk.drewN (h : Blk W o N ty f) (q : Nat) : Blk (W.drewN q) o N ty f := h
theorem Blk.far (h : Blk W o N ty f) {p : Addr} (hp : o ≠ p.block) (u : Value) : Blk (W.setCell p u) o N ty f := (Below.heap_setCell W p u o hp).trans h
theorem Blk.set (h : Blk W o N ty f) (i : Nat) (v : Int) : Blk (W.setCell ⟨o, i, none⟩ (.int .i64 v)) o N ty (fun x => if x = i then v else f x) := by
  unfold Blk at h ⊢
  simp only [World.setCell, Array.getElem?_modify, h]
  simp only [if_true, Option.map_some, Option.isSome_none, Bool.false_eq_true, if_false]
  congr 2
  apply Array.toList_inj.1
  rw [Array.toList_setIfInBounds]
  apply List.ext_getElem
  · simp
  · intro j h1 h2
    rw [List.getElem_set]
    by_cases e : i = j
    · subst e; simp
    · have e2 : ¬ j = i := fun e2 => e e2.symm
      simp [e, e2]
theorem Blk.sets : ∀ (l : List Int) (k : Nat) {W : World} {f : Nat → Int}, Blk W o N ty f → Blk (W.setCells o k (l.map (Value.int .i64))) o N ty fun x => if k ≤ x ∧ x < k + l.length then l.getD (x - k) 0 else f x
  | [], k, W, f, h => h.congr fun x _ => by rw [if_neg (by simp)]
  | a :: r, k, W, f, h => (Blk.sets r (k + 1) (h.set k a)).congr fun x _ => by
    simp only [List.length_cons]
    by_cases e1 : x = k
    · subst e1
      rw [if_neg (by omega), if_pos rfl, if_pos (by omega), Nat.sub_self]
      rfl
    · by_cases e2 : k + 1 ≤ x ∧ x < k + 1 + r.length
      · rw [if_pos e2, if_pos (by omega), show x - k = (x - (k + 1)) + 1 from by omega]
        rfl
      · rw [if_neg e2, if_neg e1, if_neg (by omega)]
/-- n of its cells, from the offset a on. -/
def part (f : Nat → Int) (a n : Nat) : List Int := (List.range n).map fun i => f (a + i)
theorem part_len (f : Nat → Int) (a n : Nat) : (part f a n).length = n := by simp [part]
theorem part_get (f : Nat → Int) (a : Nat) {n i : Nat} (h : i < n) : (part f a n).getD i 0 = f (a + i) := by simp [part, List.getD_eq_getElem?_getD, h]
theorem Blk.range (h : Blk W o N ty f) (a : Nat) {n : Nat} (hn : a + n ≤ N) : W.rangeAt o a ((part f a n).map (Value.int .i64)) := by
  intro j v hv
  have hj : j < n := by
    have := (List.getElem?_eq_some_iff.1 hv).1
    simpa [part] using this
  rw [h.cell (show a + j < N by omega)]
  simp only [part, List.getElem?_map, List.getElem?_range hj, Option.map_some] at hv
  exact hv
theorem Blk.there (h : Blk W o N ty f) (a : Nat) {n : Nat} (hn : a + n ≤ N) : W.there o a n := by
  intro j hj
  rw [h.cell (show a + j < N by omega)]
  exact ⟨rfl, h.frozen _⟩
theorem Blk.new (w : World) (N : Nat) (ty : TypeId) (f : Nat → Int) {Z : Array Value} (hZ : Z = ((List.range N).map fun i => Value.int .i64 (f i)).toArray) : Blk (w.alloc (.cells Z ty)) w.heap.size N ty f := by
  subst hZ
  exact heap_alloc_new w _
end
/-- A polynomial. -/
def tmF (T : Tm) : Nat → Int := fun x => T (x / 15) (x % 15)
abbrev Tms (W : World) (q : Nat) (T : Tm) : Prop := Blk W q 225 114 (tmF T)
theorem Tms.at_ {W : World} {q : Nat} {T : Tm} (h : Tms W q T) {j i : Nat} (hj : j < 15) (hi : i < 15) : W.cell? ⟨q, j * 15 + i, none⟩ = some (.int .i64 (T j i)) := by
  have := h.cell (show j * 15 + i < 225 by omega)
  rw [this]
  unfold tmF
  rw [show (j * 15 + i) / 15 = j by omega, show (j * 15 + i) % 15 = i by omega]
set_option maxRecDepth 100000 in
set_option maxHeartbeats 8000000 in
/-- (*terms).at -/
theorem f56_any (q : Nat) (T : Tm) (x y : Int) (w : World) (h : Tms w q T) (hok : AtOk T x y) :
    Calls Tryz.prog 56 #[.pointer (some ⟨q, 0, none⟩), .int .i64 x, .int .i64 y] w fun e w' => e = .returned (.int .i64 (outF T x y 15)) ∧ w = w' := by
  have H := Lib.hid h
  have HK := Lib.hid hok
  have HR0 : Hid (∀ j, rowF T x j 0 = 0) := Lib.hid fun _ => rfl
  have HRS : Hid (∀ j s, rowF T x j (s + 1) = rowF T x j s * x + T j (14 - s)) := Lib.hid fun _ _ => rfl
  have HO0 : Hid (outF T x y 0 = 0) := Lib.hid rfl
  have HOS : Hid (∀ s, outF T x y (s + 1) = outF T x y s * y + rowF T x (14 - s) 15) := Lib.hid fun _ => rfl
  clear h hok
  go_enter Tryz.func56, Tryz.ntmps56
  go_wp2
  go_loopw [7, 8] (fun oi ji wr => ∃ s : Nat, s ≤ 15 ∧ ji = .int .i64 (14 - (s : Int)) ∧ oi = .int .i64 (outF T x y s) ∧ w = wr) (fun _ ji _ => (intOf ji + 1).toNat)
  case atStart => exact ⟨0, by omega, rfl, by rw [HO0.out], rfl⟩
  case round => as_aux_lemma =>
    obtain ⟨s, hs, rfl, rfl, rfl⟩ := hrel
    by_cases hs15 : s < 15
    · obtain ⟨j, hj⟩ : ∃ j, j = 14 - s := ⟨_, rfl⟩
      have hj2 : (14 : Int) - (s : Int) = (j : Int) := by omega
      have hj15 : j < 15 := by omega
      have HO1 := Lib.hid (HOS.out s)
      obtain ⟨⟨o1, o2⟩, o3, o4⟩ := HK.out.2 s hs15
      rw [← hj] at HO1 o3 o4
      rw [hj2]
      have hw1 : IntKind.i64.wrap (outF T x y s * y) = outF T x y s * y := IntWalk.i64_in _ (by omega)
      have hw2 : IntKind.i64.wrap (outF T x y s * y + rowF T x j 15) = outF T x y s * y + rowF T x j 15 := IntWalk.i64_in _ (by omega)
      generalize outF T x y s = os at *
      have HJ := Lib.hid hj
      clear o1 o2 o3 o4 hj
      go_wp2
      go_loopw [9, 10] (fun ri ii wr => ∃ t : Nat, t ≤ 15 ∧ ii = .int .i64 (14 - (t : Int)) ∧ ri = .int .i64 (rowF T x j t) ∧ w = wr) (fun _ ii _ => (intOf ii + 1).toNat)
      case atStart => exact ⟨0, by omega, rfl, by rw [HR0.out], rfl⟩
      case round => as_aux_lemma =>
        obtain ⟨t, ht, rfl, rfl, rfl⟩ := hrel
        by_cases ht15 : t < 15
        · obtain ⟨i, hi⟩ : ∃ i, i = 14 - t := ⟨_, rfl⟩
          have hi2 : (14 : Int) - (t : Int) = (i : Int) := by omega
          have hi15 : i < 15 := by omega
          have HR1 := Lib.hid (HRS.out j t)
          obtain ⟨⟨r1, r2⟩, r3, r4⟩ := HK.out.1 j hj15 t ht15
          rw [← hi] at HR1 r3 r4
          rw [hi2]
          have hw3 : IntKind.i64.wrap (rowF T x j t * x) = rowF T x j t * x := IntWalk.i64_in _ (by omega)
          have hw4 : IntKind.i64.wrap (rowF T x j t * x + T j i) = rowF T x j t * x + T j i := IntWalk.i64_in _ (by omega)
          have c1 := H.out.at_ hj15 hi15
          generalize rowF T x j t = rs at *
          generalize T j i = tv at *
          have HI := Lib.hid hi
          clear r1 r2 r3 r4 hi
          go_wp2
          go_roundw
          case rel => exact ⟨t + 1, by omega, by go_num, by rw [HR1.out], trivial⟩
          case measure => simp [intOf]
        · obtain rfl : t = 15 := by omega
          go_wp2
          go_roundw
          case rel => exact ⟨s + 1, by omega, by go_num, by rw [HO1.out], trivial⟩
          case measure => simp [intOf]
    · obtain rfl : s = 15 := by omega
      go_wp2
      go_ret
      exact ⟨rfl, rfl⟩
end Go.Proofs.YtmepndnckcpgjaaGreat

namespace Go.Proofs.YtmepndnckcpgjaaGreat
open Go.RowKit
/-! ### copy, where an element has many cells -/
theorem run_copy_wide {P : Program} (w : World) (dT sT ty elem : TypeId) (b o dLen dCap : Nat) (a : Addr) (sLen sCap sz : Nat) (cs : List Value)
    (hu : P.underlying dT = some (.slice elem)) (hs : (P.info? elem).map (·.size) = some sz) (hn : cs.length = Nat.min sLen dLen * sz)
    (hsrc : ∀ j v, cs[j]? = some v → w.cell? (a.add j) = some v) (ht : w.there b o cs.length) (h1 : ∀ v ∈ cs, v.oneCell' = true) :
    (Builtin.copy_ #[dT, sT] ty #[.slice (some ⟨b, o, none⟩) dLen dCap, .slice (some a) sLen sCap]).run P w = .ok (goInt (Nat.min sLen dLen)) (w.setCells b o cs) := by
  have hl := run_loadCells_list (P := P) w a cs hsrc
  have hst := run_storeCells_cells (P := P) b o cs 0 w (fun j hj => by simpa using (ht j hj).1) (fun j hj => by simpa using (ht j hj).2) h1
  cases hq : P.info? elem with
  | none => simp [hq] at hs
  | some i =>
    have hi : i.size = sz := by simpa [hq] using hs
    simp [Builtin.copy_, run_underlying hu, Builtin.lenOf, Builtin.firstCells, sizeOf, typeInfo, hq, hi, ← hn, hl, hst]
theorem wpList_copy_wide {w : World} {ops : Array Oper} {rest : List Oper} {o : Oper} {a : Act} {Q : Exit → Act → World → Prop} (hgd : o.guard = none) (d s : Operand) (dT sT : TypeId)
    (ho : o.op = .call { callee := .builtin .copy, args := #[d, s], argTypes := #[dT, sT] }) (elem : TypeId) (hu : Tryz.prog.underlying dT = some (.slice elem)) (sz : Nat) (hsz : (Tryz.prog.info? elem).map (·.size) = some sz)
    (b off dLen dCap : Nat) (ad : Addr) (sLen sCap : Nat) (hd : a.eval d = .slice (some ⟨b, off, none⟩) dLen dCap) (hs : a.eval s = .slice (some ad) sLen sCap)
    (cs : List Value) (hn : cs.length = Nat.min sLen dLen * sz) (hsrc : ∀ j v, cs[j]? = some v → w.cell? (ad.add j) = some v) (ht : w.there b off cs.length) (h1 : ∀ v ∈ cs, v.oneCell' = true)
    (h : wpList Tryz.prog ops Q rest (a.put o.dst (goInt (Nat.min sLen dLen))) (w.setCells b off cs)) : wpList Tryz.prog ops Q (o :: rest) a w := by
  refine wpList_plain hgd fun K hK => ?_
  have hrun := run_copy_wide (P := Tryz.prog) w dT sT o.type elem b off dLen dCap ad sLen sCap sz cs hu hsz hn hsrc ht h1
  unfold Oper.wp
  simp [execOp, ho, resolve, invoke, builtin, hd, hs, hrun, Result.andThen]
  exact hK _ _ h
theorem below_setsF {B b : Nat} {a : World} (hb : B ≤ b) : ∀ (vs : List Value) (o : Nat) {W : World}, Below B a W → Below B a (W.setCells b o vs)
  | [], _, _, h => h
  | v :: r, o, _, h => below_setsF hb r (o + 1) (h.setCell (p := ⟨b, o, none⟩) hb v)
theorem ints_one (l : List Int) : ∀ v ∈ l.map (Value.int .i64), v.oneCell' = true := fun v hv => by
  obtain ⟨x, _, rfl⟩ := List.mem_map.1 hv
  rfl
theorem src_of {W : World} {b o : Nat} {cs : List Value} (h : W.rangeAt b o cs) : ∀ j v, cs[j]? = some v → W.cell? ((⟨b, o, none⟩ : Addr).add j) = some v := fun j v hv => by
  rw [Addr.add_mid]
  exact h j v hv
theorem und146 : Tryz.prog.underlying 146 = some (.slice 112) := by kernel_rfl
theorem und23 : Tryz.prog.underlying 23 = some (.slice 3) := by kernel_rfl
theorem siz112 : (Tryz.prog.info? 112).map (·.size) = some 15 := by kernel_rfl
theorem siz3 : (Tryz.prog.info? 3).map (·.size) = some 1 := by kernel_rfl
theorem siz114 : (Tryz.prog.info? 114).map (·.size) = some 225 := by kernel_rfl
theorem und114 : Tryz.prog.underlying 114 = some (.array 15 112) := by kernel_rfl
theorem und112 : Tryz.prog.underlying 112 = some (.array 15 3) := by kernel_rfl
/-! ### many zeros -/
def zeroV (n : Nat) : Array Value := ((List.range n).map fun _ => Value.int .i64 0).toArray
theorem zero225 : (Tryz.prog.info? 114).map (fun i => (i.zero, i.size)) = some (some (.agg (zeroV 225)), 225) := by kernel_rfl
theorem zero15 : (Tryz.prog.info? 112).map (fun i => (i.zero, i.size)) = some (some (.agg (zeroV 15)), 15) := by kernel_rfl
theorem run_alloc_agg {ty : TypeId} {z : Array Value} {n : Nat} (h : (Tryz.prog.info? ty).map (fun i => (i.zero, i.size)) = some (some (.agg z), n)) (w : World) :
    (Instr.alloc ty true (.tuple #[])).run Tryz.prog w = .ok (.pointer (some ⟨w.heap.size, 0, none⟩)) (w.alloc (.cells z ty)) := by
  cases hq : Tryz.prog.info? ty with
  | none => simp [hq] at h
  | some i =>
    have hi : i.zero = some (.agg z) := by
      simp [hq] at h
      exact h.1
    simp [Instr.alloc, zeroValue, typeInfo, hq, hi, newVar, go_sem, Value.cells]
theorem wpList_alloc_agg {ty : TypeId} {z : Array Value} {n : Nat} (hz : (Tryz.prog.info? ty).map (fun i => (i.zero, i.size)) = some (some (.agg z), n)) {w : World} {ops : Array Oper} {rest : List Oper} {o : Oper} {a : Act} {Q : Exit → Act → World → Prop} (hgd : o.guard = none)
    (ho : o.op = .alloc ty) (h : wpList Tryz.prog ops Q rest (a.put o.dst (.pointer (some ⟨w.heap.size, 0, none⟩))) (w.alloc (.cells z ty))) : wpList Tryz.prog ops Q (o :: rest) a w := by
  refine wpList_plain hgd fun K hK => ?_
  have hrun := run_alloc_agg hz w
  unfold Oper.wp
  simp [execOp, ho, hrun, Result.andThen]
  exact hK _ _ h
set_option maxRecDepth 100000 in
set_option maxHeartbeats 8000000 in
/-- power -/
theorem f54_any (x : Int) (k : Nat) (w : World) (hk : k ≤ 1000) (h : ∀ s, s < k → -1152921504606846976 ≤ x ^ s * x ∧ x ^ s * x ≤ 1152921504606846976) :
    Calls Tryz.prog 54 #[.int .i64 x, .int .i64 (k : Int)] w fun e w' => e = .returned (.int .i64 (x ^ k)) ∧ w = w' := by
  have H := Lib.hid h
  have HS : Hid (∀ s : Nat, x ^ (s + 1) = x ^ s * x) := Lib.hid fun s => Int.pow_succ x s
  have H0 : Hid (x ^ 0 = 1) := Lib.hid (Int.pow_zero x)
  obtain ⟨P, hP⟩ : ∃ P : Nat → Int, P = fun s => x ^ s := ⟨_, rfl⟩
  have HP : Hid (∀ s, P s = x ^ s) := Lib.hid fun s => by rw [hP]
  clear h hP
  rw [← HP.out k]
  go_enter Tryz.func54, Tryz.ntmps54
  go_wp2
  go_loopw [5, 7] (fun oi ki wr => ∃ s : Nat, s ≤ k ∧ ki = .int .i64 (s : Int) ∧ oi = .int .i64 (P s) ∧ w = wr) (fun _ ki _ => k - (intOf ki).toNat)
  case atStart => exact ⟨0, by omega, rfl, by rw [HP.out, H0.out], rfl⟩
  case round => as_aux_lemma =>
    obtain ⟨s, hs, rfl, rfl, rfl⟩ := hrel
    by_cases hsk : s < k
    · have h1 := H.out s hsk
      have HP1 : Hid (P (s + 1) = P s * x) := Lib.hid (by rw [HP.out, HP.out, HS.out])
      rw [← HP.out s] at h1
      have hw1 : IntKind.i64.wrap (P s * x) = P s * x := IntWalk.i64_in _ (by omega)
      generalize P s = ps at *
      clear h1
      go_wp2
      go_roundw
      case rel => exact ⟨s + 1, by omega, by go_num, by rw [HP1.out], trivial⟩
      case measure => simp [intOf]; omega
    · obtain rfl : s = k := by omega
      go_wp2
      go_ret
      exact ⟨rfl, rfl⟩
set_option maxRecDepth 100000 in
set_option maxHeartbeats 8000000 in
/-- (*terms).timesY -/
theorem f79_any (q : Nat) (T : Tm) (w : World) (h : Tms w q T) :
    Calls Tryz.prog 79 #[.pointer (some ⟨q, 0, none⟩)] w fun e w' => ∃ p, e = .returned (.pointer (some ⟨p, 0, none⟩)) ∧ Tms w' p (tyT T) ∧ Below w.heap.size w w' ∧ w.heap.size ≤ p := by
  have H := Lib.hid h
  clear h
  go_enter Tryz.func79, Tryz.ntmps79
  go_wp2_with (first | refine wpList_alloc_agg zero225 rfl rfl ?_)
  try simp only [Act.put, List.setIfInBounds_toArray, List.set_cons_zero, List.set_cons_succ]
  have hT0 := H.out.below (below_alloc w (.cells (zeroV 225) 114))
  have hO0 : Blk (w.alloc (.cells (zeroV 225) 114)) w.heap.size 225 114 (fun _ => 0) := Blk.new w 225 114 _ rfl
  have hB0 := below_alloc w (.cells (zeroV 225) 114)
  generalize w.alloc (.cells (zeroV 225) 114) = W1 at *
  go_still_tail 4, (by kernel_rfl)
  change wpList _ _ _ _ _ W1.drew
  have hT1 : Tms W1.drew q T := hT0
  have hO1 : Blk W1.drew w.heap.size 225 114 (fun _ => 0) := hO0
  have hB1 : Below w.heap.size w W1.drew := hB0.drew
  generalize W1.drew = W2 at *
  clear hT0 hO0 hB0
  have hsrc := src_of (hT1.range 0 (n := 210) (by omega))
  have hth := hO1.there 15 (n := 210) (by omega)
  have hone := ints_one (part (tmF T) 0 210)
  obtain ⟨cs, hcs⟩ : ∃ cs, cs = (part (tmF T) 0 210).map (Value.int .i64) := ⟨_, rfl⟩
  have hlen : cs.length = 210 := by rw [hcs, List.length_map, part_len]
  rw [← hcs] at hsrc hone
  have HR : Hid (Tms (W2.setCells w.heap.size 15 cs) w.heap.size (tyT T)) := Lib.hid (by
    rw [hcs]
    refine (hO1.sets (part (tmF T) 0 210) 15).congr fun x hx => ?_
    rw [part_len]
    unfold tmF tyT
    by_cases hx2 : 15 ≤ x
    · rw [if_pos (by omega), if_neg (by omega), part_get _ _ (by omega), show 0 + (x - 15) = x - 15 by omega, show (x - 15) / 15 = x / 15 - 1 by omega, show (x - 15) % 15 = x % 15 by omega]
    · rw [if_neg (by omega), if_pos (by omega)])
  have HBR : Hid (Below w.heap.size w (W2.setCells w.heap.size 15 cs)) := Lib.hid (below_setsF (Nat.le_refl _) cs 15 hB1)
  clear hcs hB1 hO1 hT1
  go_wp2_with (first | refine wpList_copy_wide rfl (.tmp 4) (.tmp 7) 146 146 rfl 112 und146 15 siz112 w.heap.size 15 14 14 ⟨q, 0, none⟩ 15 15 rfl rfl cs hlen hsrc (by rw [hlen]; exact hth) hone ?_)
  go_ret
  exact ⟨_, rfl, HR.out, HBR.out, Nat.le_refl _⟩
end Go.Proofs.YtmepndnckcpgjaaGreat

namespace Go.Proofs.YtmepndnckcpgjaaGreat
open Go.RowKit
theorem Blk.farSets {o N g : Nat} {ty : TypeId} {f : Nat → Int} (hne : o ≠ g) : ∀ (vs : List Value) (k : Nat) {W : World}, Blk W o N ty f → Blk (W.setCells g k vs) o N ty f
  | [], _, _, h => h
  | v :: r, k, _, h => Blk.farSets hne r (k + 1) (h.far (p := ⟨g, k, none⟩) hne v)
theorem Blk.drew {W : World} {o N : Nat} {ty : TypeId} {f : Nat → Int} (h : Blk W o N ty f) : Blk W.drew o N ty f := h
theorem Blk.alloc {W : World} {o N : Nat} {ty : TypeId} {f : Nat → Int} (h : Blk W o N ty f) (x : Obj) : Blk (W.alloc x) o N ty f := (Below.heap_alloc W x o h.lt).trans h
theorem wp_alloc_agg {ty : TypeId} {z : Array Value} {n : Nat} (hz : (Tryz.prog.info? ty).map (fun i => (i.zero, i.size)) = some (some (.agg z), n)) {w : World} {o : Oper} {a : Act} {K : Act → World → Prop} {Q : Exit → Act → World → Prop}
    (ho : o.op = .alloc ty) (h : K (a.put o.dst (.pointer (some ⟨w.heap.size, 0, none⟩))) (w.alloc (.cells z ty))) : o.wp Tryz.prog a w K Q := by
  have hrun := run_alloc_agg hz w
  unfold Oper.wp
  simp [execOp, ho, hrun, Result.andThen]
  exact h
/-- A row of a polynomial, in a variable of its own. -/
theorem row_loaded (W : World) {q j : Nat} {T : Tm} (h : Tms W q T) {rowV : List Value} (hr : rowV = (part (tmF T) (j * 15) 15).map (Value.int .i64)) :
    Blk (W.alloc (.cells (zeroV 15) 112)) W.heap.size 15 112 (fun _ => 0) ∧ Blk ((W.alloc (.cells (zeroV 15) 112)).setCells W.heap.size 0 rowV) W.heap.size 15 112 (fun x => T j x) ∧
      Below W.heap.size W ((W.alloc (.cells (zeroV 15) 112)).setCells W.heap.size 0 rowV) ∧ Tms ((W.alloc (.cells (zeroV 15) 112)).setCells W.heap.size 0 rowV) q T ∧ rowV.length = 15 := by
  have hn : Blk (W.alloc (.cells (zeroV 15) 112)) W.heap.size 15 112 (fun _ => 0) := Blk.new W 15 112 _ rfl
  have hb : Below W.heap.size W ((W.alloc (.cells (zeroV 15) 112)).setCells W.heap.size 0 rowV) := below_setsF (Nat.le_refl _) rowV 0 (below_alloc W _)
  refine ⟨hn, ?_, hb, h.below hb, by rw [hr, List.length_map, part_len]⟩
  rw [hr]
  refine (hn.sets (part (tmF T) (j * 15) 15) 0).congr fun x hx => ?_
  rw [part_len, if_pos (by omega), part_get _ _ (by omega)]
  unfold tmF
  rw [show (j * 15 + (x - 0)) / 15 = j by omega, show (j * 15 + (x - 0)) % 15 = x by omega]
/-- the rows before j times x. -/
def fX (T : Tm) (j : Nat) : Nat → Int := fun x => if x / 15 < j then tmF (txT T) x else 0
set_option maxRecDepth 100000 in
set_option maxHeartbeats 8000000 in
/-- (*terms).timesX -/
theorem f81_any (q : Nat) (T : Tm) (w : World) (h : Tms w q T) :
    Calls Tryz.prog 81 #[.pointer (some ⟨q, 0, none⟩)] w fun e w' => ∃ p, e = .returned (.pointer (some ⟨p, 0, none⟩)) ∧ Tms w' p (txT T) ∧ Below w.heap.size w w' ∧ w.heap.size ≤ p := by
  have H := Lib.hid h
  clear h
  go_enter Tryz.func81, Tryz.ntmps81
  go_wp2_with (first | refine wpList_alloc_agg zero225 rfl rfl ?_)
  try simp only [Act.put, List.setIfInBounds_toArray, List.set_cons_zero, List.set_cons_succ]
  have HT0 := Lib.hid (H.out.below (below_alloc w (.cells (zeroV 225) 114)))
  have HO0 : Hid (Blk (w.alloc (.cells (zeroV 225) 114)) w.heap.size 225 114 (fX T 0)) := Lib.hid ((Blk.new w 225 114 (fun _ => 0) rfl).congr fun x _ => by unfold fX; rw [if_neg (by omega)])
  have HB0 := Lib.hid (below_alloc w (.cells (zeroV 225) 114))
  generalize w.alloc (.cells (zeroV 225) 114) = W1 at *
  obtain ⟨g, hg⟩ : ∃ g, g = w.heap.size := ⟨_, rfl⟩
  rw [← hg] at HO0 ⊢
  have HG := Lib.hid hg
  have hqg : q ≠ g := by have := H.out.lt; omega
  clear hg
  go_loopw [8] (fun ji wr => ∃ j : Nat, j ≤ 15 ∧ ji = .int .i64 (j : Int) ∧ Hid (Tms wr q T) ∧ Hid (Blk wr g 225 114 (fX T j)) ∧ Hid (Below w.heap.size w wr)) (fun ji _ => 15 - (intOf ji).toNat)
  case atStart => exact ⟨0, by omega, rfl, HT0, HO0, HB0⟩
  case round => as_aux_lemma =>
    obtain ⟨j, hj, rfl, HT, HO, HB⟩ := hrel
    by_cases hj15 : j < 15
    · have j0 : (0 : Int) ≤ (j : Int) := by omega
      have j15 : (j : Int) < 15 := by omega
      obtain ⟨rowV, hrow⟩ : ∃ v, v = (part (tmF T) (j * 15) 15).map (Value.int .i64) := ⟨_, rfl⟩
      have HRV := Lib.hid hrow
      obtain ⟨n1, n2, n3, n4, n5⟩ := row_loaded wr.drew (q := q) (T := T) HT.out hrow
      have HN1 := Lib.hid n1
      have HN2 := Lib.hid n2
      have HN3 := Lib.hid n3
      have HSF := Lib.hid n4
      have HRVL := Lib.hid n5
      have HNB := HN1
      have H0 : Tms wr q T := HT.out
      clear hrow n1 n2 n3 n4 n5 HN1
      go_upto_region 4 with fail
      refine wp_region_held_drew (S := fun W => Tms W q T) (by kernel_rfl) (H0.drew) (fun hS => ?_)
      refine wpAnyH_take (i := 0) (oi := { dst := some 10, op := Op.move (Operand.tmp 8), type := 3, pos := "fence.go:96", after := #[], guard := none }) (v := .int .i64 (j : Int)) rfl (by kernel_rfl) (by kernel_rfl) (by kernel_rfl) (fun _ _ _ h => h) (Or.inl ⟨by kernel_rfl, fun W hSW => by kernel_rfl⟩) hS ?_
      try simp only [Act.put, List.setIfInBounds_toArray, List.set_cons_zero, List.set_cons_succ]
      refine wpAnyH_take (i := 1) (oi := { dst := some 11, op := Op.nilCheck (Operand.tmp 6), type := 0, pos := "fence.go:96", after := #[{ on := 5, ground := Ground.gcOnly Departure.lateStores }], guard := none }) (v := .pointer (some ⟨q, 0, none⟩)) rfl (by kernel_rfl) (by kernel_rfl) (by kernel_rfl) (fun _ _ _ h => h) (Or.inl ⟨by kernel_rfl, fun W hSW => by kernel_rfl⟩) hS ?_
      try simp only [Act.put, List.setIfInBounds_toArray, List.set_cons_zero, List.set_cons_succ]
      refine wpAnyH_take (i := 2) (oi := { dst := some 12, op := Op.indexAddr 114 (Operand.tmp 11) (Operand.tmp 8), type := 0, pos := "fence.go:96", after := #[{ on := 1, ground := Ground.data }, { on := 5, ground := Ground.gcOnly Departure.lateStores }], guard := none }) (v := .pointer (some ⟨q, j * 15, none⟩)) rfl (by kernel_rfl) (by kernel_rfl) (by kernel_rfl) (fun _ _ _ h => h) (Or.inl ⟨by kernel_rfl, fun W hSW => by go_simp⟩) hS ?_
      try simp only [Act.put, List.setIfInBounds_toArray, List.set_cons_zero, List.set_cons_succ]
      refine wpAnyH_take (i := 3) (oi := { dst := some 13, op := Op.load 112 (Operand.tmp 12), type := 112, pos := "fence.go:96", after := #[{ on := 2, ground := Ground.data }, { on := 5, ground := Ground.gcOnly Departure.lateStores }], guard := none }) (v := .agg rowV.toArray) rfl (by kernel_rfl) (by kernel_rfl) (by kernel_rfl) (fun _ _ _ h => h) (yieldsIf_load_mid (by kernel_rfl) 112 (.tmp 12) rfl q (j * 15) rfl rowV _ (fun W hW => by rw [HRV.out]; exact hW.range (j * 15) (n := 15) (by omega)) und112 rfl (by rw [HRVL.out]; exact siz112)) hS ?_
      try simp only [Act.put, List.setIfInBounds_toArray, List.set_cons_zero, List.set_cons_succ]
      refine wpAnyH_ready (rs := [4]) (by kernel_rfl) (by simp) ?_
      refine AllReadyH.cons (o := { dst := some 5, op := Op.alloc 112, type := 0, pos := "fence.go:96", after := #[], guard := none }) rfl (fun K hK => ?_) AllReadyH.nil
      rw [if_pos (by kernel_rfl)]
      refine wp_alloc_agg zero15 rfl ?_
      refine hK.out _ _ (Blk.alloc hS _) (fun hS => ?_)
      clear hK K
      try simp only [Act.put, List.setIfInBounds_toArray, List.set_cons_zero, List.set_cons_succ]
      refine wpAnyH_take (i := 5) (oi := { dst := some 4, op := Op.assign (Operand.tmp 10), type := 3, pos := "fence.go:96", after := #[{ on := 0, ground := Ground.data }, { on := 0, ground := Ground.phase }, { on := 1, ground := Ground.textOnly Departure.lateStores }, { on := 2, ground := Ground.textOnly Departure.lateStores }, { on := 3, ground := Ground.textOnly Departure.lateStores }, { on := 4, ground := Ground.phase }], guard := none }) (v := .int .i64 (j : Int)) rfl (by kernel_rfl) (by kernel_rfl) (by kernel_rfl) (fun _ _ _ h => h) (Or.inl ⟨by kernel_rfl, fun W hSW => by kernel_rfl⟩) hS ?_
      try simp only [Act.put, List.setIfInBounds_toArray, List.set_cons_zero, List.set_cons_succ]
      refine wpAnyH_ready (rs := [6]) (by kernel_rfl) (by simp) ?_
      refine AllReadyH.cons (o := { dst := none, op := Op.store 112 (Operand.tmp 5) (Operand.tmp 13), type := 0, pos := "fence.go:96", after := #[{ on := 4, ground := Ground.data }, { on := 3, ground := Ground.data }, { on := 5, ground := Ground.chain }, { on := 0, ground := Ground.phase }, { on := 1, ground := Ground.phase }, { on := 2, ground := Ground.phase }, { on := 3, ground := Ground.phase }, { on := 4, ground := Ground.phase }, { on := 5, ground := Ground.phase }], guard := none }) rfl (fun K hK => ?_) AllReadyH.nil
      rw [if_pos (by kernel_rfl)]
      refine wp_store_mid 112 (.tmp 5) (.tmp 13) rfl _ 0 rowV.toArray rfl rfl (by have := HNB.out.there 0 (n := 15) (by omega); simpa [HRVL.out] using this) (by simpa [HRVL.out] using siz112) (by rw [HRV.out]; exact all_oneCell_toArray (ints_one _)) ?_
      refine hK.out _ _ (HSF.out) (fun hS => ?_)
      clear hK K
      try simp only [Act.put]
      refine wpAnyH_done (by kernel_rfl) ?_ _
      generalize hW2 : (wr.drew.alloc (.cells (zeroV 15) 112)).setCells wr.drew.heap.size 0 rowV.toArray.toList = W2
      have HT2 : Hid (Tms W2 q T) := Lib.hid (by rw [← hW2]; exact HSF.out)
      have HR2 : Hid (Blk W2 wr.drew.heap.size 15 112 (fun x => T j x)) := Lib.hid (by rw [← hW2]; exact HN2.out)
      have hb2 : Below wr.drew.heap.size wr.drew W2 := by rw [← hW2]; exact HN3.out
      have HO2 : Hid (Blk W2 g 225 114 (fX T j)) := Lib.hid (HO.out.drew.below hb2)
      have HB2 : Hid (Below w.heap.size w W2) := Lib.hid (below_step HB.out.drew hb2)
      clear hW2 hb2 HSF HN2 HN3 HNB HT HO HB
      generalize wr.drew.heap.size = r at *
      go_upto_region 5 with fail
      go_still_tail 4, (by kernel_rfl)
      change wpList _ _ _ _ _ W2.drew
      obtain ⟨cs, hcs⟩ : ∃ cs, cs = (part (fun x => T j x) 0 14).map (Value.int .i64) := ⟨_, rfl⟩
      have hlen : cs.length = 14 := by rw [hcs, List.length_map, part_len]
      have hsrc := src_of (HR2.out.drew.range 0 (n := 14) (by omega))
      have hone := ints_one (part (fun x => T j x) 0 14)
      rw [← hcs] at hsrc hone
      have hth := HO2.out.drew.there (j * 15 + 1) (n := 14) (by omega)
      have HT3 : Hid (Tms (W2.drew.setCells g (j * 15 + 1) cs) q T) := Lib.hid (Blk.farSets hqg _ _ HT2.out.drew)
      have HO3 : Hid (Blk (W2.drew.setCells g (j * 15 + 1) cs) g 225 114 (fX T (j + 1))) := Lib.hid (by
        rw [hcs]
        refine (HO2.out.drew.sets (part (fun x => T j x) 0 14) (j * 15 + 1)).congr fun x hx => ?_
        rw [part_len]
        unfold fX tmF txT
        by_cases h1 : j * 15 + 1 ≤ x ∧ x < j * 15 + 1 + 14
        · rw [if_pos h1, if_pos (show x / 15 < j + 1 by omega), if_neg (show ¬ x % 15 = 0 by omega), part_get _ _ (by omega)]
          have e1 : x / 15 = j := by omega
          rw [e1, show x % 15 - 1 = 0 + (x - (j * 15 + 1)) by omega]
        · rw [if_neg h1]
          by_cases h2 : x / 15 < j
          · rw [if_pos h2, if_pos (show x / 15 < j + 1 by omega)]
          · rw [if_neg h2]
            by_cases h3 : x / 15 < j + 1
            · rw [if_pos h3, if_pos (show x % 15 = 0 by omega)]
            · rw [if_neg h3])
      have HB3 : Hid (Below w.heap.size w (W2.drew.setCells g (j * 15 + 1) cs)) := Lib.hid (below_setsF (Nat.le_of_eq HG.out.symm) _ _ HB2.out.drew)
      clear hcs
      go_wp2_with (first | refine wpList_copy_wide rfl (.tmp 16) (.tmp 17) 23 23 rfl 3 und23 1 siz3 g (j * 15 + 1) 14 14 ⟨r, 0, none⟩ 15 15 rfl rfl cs hlen hsrc (by rw [hlen]; exact hth) hone ?_)
      go_roundw
      case rel => exact ⟨j + 1, by omega, by go_num, HT3.out, HO3.out, HB3.out⟩
      case measure => simp [intOf]; omega
    · obtain rfl : j = 15 := by omega
      go_wp2
      go_ret
      exact ⟨g, rfl, HO.out.congr fun x hx => (by unfold fX; rw [if_pos (by omega)]), HB.out, Nat.le_of_eq HG.out.symm⟩
end Go.Proofs.YtmepndnckcpgjaaGreat

namespace Go.Proofs.YtmepndnckcpgjaaGreat
open Go.RowKit
theorem index15 (bv : List Value) (i : Nat) (v : Value) (hi : i < 15) (hv : bv[i]? = some v) (W : World) : (Instr.index 112 (.agg bv.toArray) (.int .i64 (i : Int))).run Tryz.prog W = .ok v W := by
  obtain ⟨i0, h0, hz0, hz1, hz2⟩ := info_parts (show (Tryz.prog.info? 3).map (fun i => (i.zero, i.size, i.bytes)) = some (some (.int .i64 0), 1, 8) from by kernel_rfl)
  have hlt : i < 15 := hi
  simp [Instr.index, asIntOf, run_underlying und112, sizeOf, typeInfo, h0, hz1, Go.part, hv, hlt]
/-- the sum as far as row j, column i. -/
def fP (A B : Tm) (j i : Nat) : Nat → Int := fun x => if x < j * 15 + i then tmF (plusT A B) x else tmF A x
set_option maxRecDepth 100000 in
set_option maxHeartbeats 8000000 in
/-- (*terms).plus -/
theorem f82_any (q r : Nat) (A B : Tm) (w : World) (h : Tms w q A) (h' : Tms w r B) (hA : ∀ j i, -1152921504606846976 ≤ A j i ∧ A j i ≤ 1152921504606846976) (hB : ∀ j i, -1152921504606846976 ≤ B j i ∧ B j i ≤ 1152921504606846976) :
    Calls Tryz.prog 82 #[.pointer (some ⟨q, 0, none⟩), .pointer (some ⟨r, 0, none⟩)] w fun e w' => ∃ p, e = .returned (.pointer (some ⟨p, 0, none⟩)) ∧ Tms w' p (plusT A B) ∧ Below w.heap.size w w' ∧ w.heap.size ≤ p := by
  have H := Lib.hid h
  have H' := Lib.hid h'
  have HA := Lib.hid hA
  have HBB := Lib.hid hB
  obtain ⟨cv, hcv⟩ : ∃ v, v = (part (tmF A) 0 225).map (Value.int .i64) := ⟨_, rfl⟩
  have hR : w.rangeAt q 0 cv := by rw [hcv]; exact h.range 0 (by omega)
  have hL : cv.length = 225 := by rw [hcv, List.length_map, part_len]
  have hS : (Tryz.prog.info? 114).map (·.size) = some cv.length := by rw [hL]; exact siz114
  have hS' : (Tryz.prog.info? 114).map (·.size) = some cv.toArray.size := by simpa [hL] using siz114
  have hO : cv.toArray.all (·.oneCell') = true := by rw [hcv]; exact all_oneCell_toArray (ints_one _)
  have hN : Blk (w.alloc (.cells (zeroV 225) 114)) w.heap.size 225 114 (fun _ => 0) := Blk.new w 225 114 _ rfl
  have hT : (w.alloc (.cells (zeroV 225) 114)).there w.heap.size 0 cv.toArray.size := by have := hN.there 0 (n := 225) (by omega); simpa [hL] using this
  have HSH := Lib.hid hS
  have HOF : Hid (Blk ((w.alloc (.cells (zeroV 225) 114)).setCells w.heap.size 0 cv) w.heap.size 225 114 (fP A B 0 0)) := Lib.hid (by
    rw [hcv]
    refine (hN.sets (part (tmF A) 0 225) 0).congr fun x hx => ?_
    rw [part_len, if_pos (by omega), part_get _ _ (by omega)]
    unfold fP
    rw [if_neg (by omega), show 0 + (x - 0) = x by omega])
  have HBF : Hid (Below w.heap.size w ((w.alloc (.cells (zeroV 225) 114)).setCells w.heap.size 0 cv)) := Lib.hid (below_setsF (Nat.le_refl _) cv 0 (below_alloc w _))
  clear h h' hA hB hcv hN hS hL
  go_enter Tryz.func82, Tryz.ntmps82
  go_upto_region 2 with (first | refine wpList_load_mid rfl 114 (.tmp 11) rfl q 0 rfl cv _ hR und114 rfl HSH.out ?_ | refine wpList_alloc_agg zero225 rfl rfl ?_ | refine wpList_store_mid rfl 114 (.tmp 5) (.tmp 12) rfl w.heap.size 0 cv.toArray rfl rfl hT hS' hO ?_)
  try simp only [Act.put, List.setIfInBounds_toArray, List.set_cons_zero, List.set_cons_succ]
  generalize hW1 : (w.alloc (.cells (zeroV 225) 114)).setCells w.heap.size 0 cv.toArray.toList = W1
  have HO1 : Hid (Blk W1 w.heap.size 225 114 (fP A B 0 0)) := Lib.hid (by rw [← hW1]; exact HOF.out)
  have HB1 : Hid (Below w.heap.size w W1) := Lib.hid (by rw [← hW1]; exact HBF.out)
  have HT1 : Hid (Tms W1 r B) := Lib.hid (H'.out.below HB1.out)
  clear hW1 HOF HBF hR hT hO hS'
  obtain ⟨g, hg⟩ : ∃ g, g = w.heap.size := ⟨_, rfl⟩
  rw [← hg] at HO1 ⊢
  have HG := Lib.hid hg
  have hrg : r ≠ g := by have := H'.out.lt; omega
  clear hg
  go_wp2
  go_loopw [15] (fun ji wr => ∃ j : Nat, j ≤ 15 ∧ ji = .int .i64 (j : Int) ∧ Hid (Tms wr r B) ∧ Hid (Blk wr g 225 114 (fP A B j 0)) ∧ Hid (Below w.heap.size w wr)) (fun ji _ => 15 - (intOf ji).toNat)
  case atStart => exact ⟨0, by omega, rfl, HT1, HO1, HB1⟩
  case round => as_aux_lemma =>
    obtain ⟨j, hj, rfl, HT, HO, HB⟩ := hrel
    by_cases hj15 : j < 15
    · have j0 : (0 : Int) ≤ (j : Int) := by omega
      have j15 : (j : Int) < 15 := by omega
      obtain ⟨rowV, hrow⟩ : ∃ v, v = (part (tmF B) (j * 15) 15).map (Value.int .i64) := ⟨_, rfl⟩
      have HRV := Lib.hid hrow
      obtain ⟨n1, n2, n3, n4, n5⟩ := row_loaded wr.drew (q := r) (T := B) HT.out hrow
      have HN2 := Lib.hid n2
      have HN3 := Lib.hid n3
      have HSF := Lib.hid n4
      have HRVL := Lib.hid n5
      have HNB := Lib.hid n1
      have H0 : Tms wr r B := HT.out
      clear hrow n1 n2 n3 n4 n5
      go_upto_region 4 with fail
      refine wp_region_held_drew (S := fun W => Tms W r B) (by kernel_rfl) (H0.drew) (fun hS => ?_)
      refine wpAnyH_take (i := 0) (oi := { dst := some 17, op := Op.move (Operand.tmp 15), type := 3, pos := "fence.go:85", after := #[], guard := none }) (v := .int .i64 (j : Int)) rfl (by kernel_rfl) (by kernel_rfl) (by kernel_rfl) (fun _ _ _ h => h) (Or.inl ⟨by kernel_rfl, fun W hSW => by kernel_rfl⟩) hS ?_
      try simp only [Act.put, List.setIfInBounds_toArray, List.set_cons_zero, List.set_cons_succ]
      refine wpAnyH_take (i := 1) (oi := { dst := some 18, op := Op.nilCheck (Operand.tmp 13), type := 0, pos := "fence.go:85", after := #[{ on := 5, ground := Ground.gcOnly Departure.lateStores }], guard := none }) (v := .pointer (some ⟨r, 0, none⟩)) rfl (by kernel_rfl) (by kernel_rfl) (by kernel_rfl) (fun _ _ _ h => h) (Or.inl ⟨by kernel_rfl, fun W hSW => by kernel_rfl⟩) hS ?_
      try simp only [Act.put, List.setIfInBounds_toArray, List.set_cons_zero, List.set_cons_succ]
      refine wpAnyH_take (i := 2) (oi := { dst := some 19, op := Op.indexAddr 114 (Operand.tmp 18) (Operand.tmp 15), type := 0, pos := "fence.go:85", after := #[{ on := 1, ground := Ground.data }, { on := 5, ground := Ground.gcOnly Departure.lateStores }], guard := none }) (v := .pointer (some ⟨r, j * 15, none⟩)) rfl (by kernel_rfl) (by kernel_rfl) (by kernel_rfl) (fun _ _ _ h => h) (Or.inl ⟨by kernel_rfl, fun W hSW => by go_simp⟩) hS ?_
      try simp only [Act.put, List.setIfInBounds_toArray, List.set_cons_zero, List.set_cons_succ]
      refine wpAnyH_take (i := 3) (oi := { dst := some 20, op := Op.load 112 (Operand.tmp 19), type := 112, pos := "fence.go:85", after := #[{ on := 2, ground := Ground.data }, { on := 5, ground := Ground.gcOnly Departure.lateStores }], guard := none }) (v := .agg rowV.toArray) rfl (by kernel_rfl) (by kernel_rfl) (by kernel_rfl) (fun _ _ _ h => h) (yieldsIf_load_mid (by kernel_rfl) 112 (.tmp 19) rfl r (j * 15) rfl rowV _ (fun W hW => by rw [HRV.out]; exact hW.range (j * 15) (n := 15) (by omega)) und112 rfl (by rw [HRVL.out]; exact siz112)) hS ?_
      try simp only [Act.put, List.setIfInBounds_toArray, List.set_cons_zero, List.set_cons_succ]
      refine wpAnyH_ready (rs := [4]) (by kernel_rfl) (by simp) ?_
      refine AllReadyH.cons (o := { dst := some 7, op := Op.alloc 112, type := 0, pos := "fence.go:85", after := #[], guard := none }) rfl (fun K hK => ?_) AllReadyH.nil
      rw [if_pos (by kernel_rfl)]
      refine wp_alloc_agg zero15 rfl ?_
      refine hK.out _ _ (Blk.alloc hS _) (fun hS => ?_)
      clear hK K
      try simp only [Act.put, List.setIfInBounds_toArray, List.set_cons_zero, List.set_cons_succ]
      refine wpAnyH_take (i := 5) (oi := { dst := some 6, op := Op.assign (Operand.tmp 17), type := 3, pos := "fence.go:85", after := #[{ on := 0, ground := Ground.data }, { on := 0, ground := Ground.phase }, { on := 1, ground := Ground.textOnly Departure.lateStores }, { on := 2, ground := Ground.textOnly Departure.lateStores }, { on := 3, ground := Ground.textOnly Departure.lateStores }, { on := 4, ground := Ground.phase }], guard := none }) (v := .int .i64 (j : Int)) rfl (by kernel_rfl) (by kernel_rfl) (by kernel_rfl) (fun _ _ _ h => h) (Or.inl ⟨by kernel_rfl, fun W hSW => by kernel_rfl⟩) hS ?_
      try simp only [Act.put, List.setIfInBounds_toArray, List.set_cons_zero, List.set_cons_succ]
      refine wpAnyH_ready (rs := [6]) (by kernel_rfl) (by simp) ?_
      refine AllReadyH.cons (o := { dst := none, op := Op.store 112 (Operand.tmp 7) (Operand.tmp 20), type := 0, pos := "fence.go:85", after := #[{ on := 4, ground := Ground.data }, { on := 3, ground := Ground.data }, { on := 5, ground := Ground.chain }, { on := 0, ground := Ground.phase }, { on := 1, ground := Ground.phase }, { on := 2, ground := Ground.phase }, { on := 3, ground := Ground.phase }, { on := 4, ground := Ground.phase }, { on := 5, ground := Ground.phase }], guard := none }) rfl (fun K hK => ?_) AllReadyH.nil
      rw [if_pos (by kernel_rfl)]
      refine wp_store_mid 112 (.tmp 7) (.tmp 20) rfl _ 0 rowV.toArray rfl rfl (by have := HNB.out.there 0 (n := 15) (by omega); simpa [HRVL.out] using this) (by simpa [HRVL.out] using siz112) (by rw [HRV.out]; exact all_oneCell_toArray (ints_one _)) ?_
      refine hK.out _ _ (HSF.out) (fun hS => ?_)
      clear hK K
      try simp only [Act.put]
      refine wpAnyH_done (by kernel_rfl) ?_ _
      generalize hW2 : (wr.drew.alloc (.cells (zeroV 15) 112)).setCells wr.drew.heap.size 0 rowV.toArray.toList = W2
      have HT2 : Hid (Tms W2 r B) := Lib.hid (by rw [← hW2]; exact HSF.out)
      have HR2 : Hid (Blk W2 wr.drew.heap.size 15 112 (fun x => B j x)) := Lib.hid (by rw [← hW2]; exact HN2.out)
      have hb2 : Below wr.drew.heap.size wr.drew W2 := by rw [← hW2]; exact HN3.out
      have HO2 : Hid (Blk W2 g 225 114 (fP A B j 0)) := Lib.hid (HO.out.drew.below hb2)
      have HB2 : Hid (Below w.heap.size w W2) := Lib.hid (below_step HB.out.drew hb2)
      clear hW2 hb2 HSF HN2 HN3 HNB HT HO HB
      generalize wr.drew.heap.size = s at *
      obtain ⟨bv, hbv⟩ : ∃ v, v = (part (fun x => B j x) 0 15).map (Value.int .i64) := ⟨_, rfl⟩
      have hR2 : W2.rangeAt s 0 bv := by rw [hbv]; exact HR2.out.range 0 (by omega)
      have hbl : bv.length = 15 := by rw [hbv, List.length_map, part_len]
      have HBL := Lib.hid hbl
      have hbi : ∀ i, i < 15 → bv[i]? = some (.int .i64 (B j i)) := fun i hi => by
        rw [hbv]
        simp [part, hi]
      have HBI := Lib.hid hbi
      have hsz : Hid ((Tryz.prog.info? 112).map (·.size) = some bv.length) := Lib.hid (by rw [hbl]; exact siz112)
      clear hbv hbl hbi
      go_wp2_with (first | refine wpList_load_mid rfl 112 (.tmp 7) rfl s 0 rfl bv _ hR2 und112 rfl hsz.out ?_)
      try simp only [Act.put, List.setIfInBounds_toArray, List.set_cons_zero, List.set_cons_succ]
      go_loopw [22] (fun ii wq => ∃ i : Nat, i ≤ 15 ∧ ii = .int .i64 (i : Int) ∧ Hid (Tms wq r B) ∧ Hid (Blk wq g 225 114 (fP A B j i)) ∧ Hid (Below w.heap.size w wq)) (fun ii _ => 15 - (intOf ii).toNat)
      case atStart => exact ⟨0, by omega, rfl, HT2, HO2, HB2⟩
      case round => as_aux_lemma =>
        obtain ⟨i, hi, rfl, HT, HO, HB⟩ := hrel
        by_cases hi15 : i < 15
        · have i0 : (0 : Int) ≤ (i : Int) := by omega
          have i15 : (i : Int) < 15 := by omega
          have hv := HBI.out i hi15
          have hix := index15 bv i _ hi15 hv
          have c1 := HO.out.cell (show j * 15 + i < 225 by omega)
          have f1 := HO.out.frozen (j * 15 + i)
          have e1 : fP A B j i (j * 15 + i) = A j i := by
            unfold fP tmF
            rw [if_neg (by omega), show (j * 15 + i) / 15 = j by omega, show (j * 15 + i) % 15 = i by omega]
          rw [e1] at c1
          have hA := HA.out j i
          have hB := HBB.out j i
          have hw1 : IntKind.i64.wrap (A j i + B j i) = A j i + B j i := IntWalk.i64_in _ (by omega)
          have HQ : Hid (plusT A B j i = A j i + B j i) := Lib.hid rfl
          generalize A j i = av at *
          generalize B j i = bw at *
          clear hv hA hB e1
          go_upto_region 8 with fail
          go_still_tail 9, (by kernel_rfl)
          change wpList _ _ _ _ _ wr.drew
          have c4 : wr.drew.cell? ⟨g, j * 15 + i, none⟩ = some (.int .i64 av) := c1
          have f4 : wr.drew.frozen? ⟨g, j * 15 + i, none⟩ = false := f1
          have HT4 : Hid (Tms wr.drew r B) := Lib.hid HT.out.drew
          have HO4 : Hid (Blk wr.drew g 225 114 (fP A B j i)) := Lib.hid HO.out.drew
          have HB4 : Hid (Below w.heap.size w wr.drew) := Lib.hid HB.out.drew
          clear c1 f1 HT HO HB hix
          generalize wr.drew = W4 at *
          go_wp2
          go_roundw
          case rel => exact ⟨i + 1, by omega, by go_num, Lib.hid (HT4.out.far (p := ⟨g, j * 15 + i, none⟩) hrg _), Lib.hid ((HO4.out.set (j * 15 + i) (av + bw)).congr fun x hx => by
            unfold fP
            by_cases h1 : x = j * 15 + i
            · rw [if_pos h1, if_pos (by omega), ← HQ.out, h1]
              unfold tmF
              rw [show (j * 15 + i) / 15 = j by omega, show (j * 15 + i) % 15 = i by omega]
            · rw [if_neg h1]
              by_cases h2 : x < j * 15 + i
              · rw [if_pos h2, if_pos (by omega)]
              · rw [if_neg h2, if_neg (by omega)]), Lib.hid (HB4.out.setCell (p := ⟨g, j * 15 + i, none⟩) (Nat.le_of_eq HG.out.symm) _)⟩
          case measure => simp [intOf]; omega
        · obtain rfl : i = 15 := by omega
          go_wp2
          go_roundw
          case rel => exact ⟨j + 1, by omega, by go_num, HT, Lib.hid (HO.out.congr fun x _ => by unfold fP; rw [show j * 15 + 15 = (j + 1) * 15 + 0 by omega]), HB⟩
          case measure => simp [intOf]; omega
    · obtain rfl : j = 15 := by omega
      go_wp2
      go_ret
      exact ⟨g, rfl, HO.out.congr fun x hx => (by unfold fP; rw [if_pos (by omega)]), HB.out, Nat.le_of_eq HG.out.symm⟩
end Go.Proofs.YtmepndnckcpgjaaGreat

namespace Go.Proofs.YtmepndnckcpgjaaGreat
open Go.RowKit
def fvF (fs : List (Int × Int)) (x : Nat) : Value := if x % 2 = 0 then .int .i64 (fs.getD (x / 2) (0, 0)).1 else .int .i64 (fs.getD (x / 2) (0, 0)).2
/-- fences, cell by cell. -/
def fenV (fs : List (Int × Int)) : List Value := (List.range (fs.length * 2)).map (fvF fs)
theorem fenV_len (fs : List (Int × Int)) : (fenV fs).length = fs.length * 2 := by simp [fenV]
theorem fenV_get (fs : List (Int × Int)) {x : Nat} (h : x < fs.length * 2) : (fenV fs)[x]? = some (fvF fs x) := by simp [fenV, h]
theorem fenV_at {fs : List (Int × Int)} {x : Nat} {v : Value} (h : (fenV fs)[x]? = some v) : x < fs.length * 2 ∧ v = fvF fs x := by
  have hx : x < fs.length * 2 := by
    have := (List.getElem?_eq_some_iff.1 h).1
    rwa [fenV_len] at this
  rw [fenV_get fs hx] at h
  exact ⟨hx, (Option.some.inj h).symm⟩
theorem fenV_one (fs : List (Int × Int)) : ∀ v ∈ fenV fs, v.oneCell' = true := fun v hv => by
  obtain ⟨x, _, rfl⟩ := List.mem_map.1 hv
  unfold fvF
  split <;> rfl
theorem fvF_tail (fs : List (Int × Int)) (x : Nat) : fvF fs.tail x = fvF fs (x + 2) := by
  unfold fvF
  rw [show (x + 2) % 2 = x % 2 by omega, show (x + 2) / 2 = x / 2 + 1 by omega]
  cases fs <;> simp
theorem Fens.rng {w : World} {b off n : Nat} {fs : List (Int × Int)} (h : Fens w (some ⟨b, off, none⟩) n fs) : w.rangeAt b off (fenV fs) := by
  intro x v hv
  obtain ⟨hx, rfl⟩ := fenV_at hv
  have hl := h.len
  obtain ⟨b', off', e, c1, c2⟩ := h.at_ (k := x / 2) (by omega)
  injection e with e
  injection e with e1 e2
  subst e1 e2
  unfold fvF
  by_cases h2 : x % 2 = 0
  · rw [if_pos h2, show off + x = off + x / 2 * 2 by omega]; exact c1
  · rw [if_neg h2, show off + x = off + x / 2 * 2 + 1 by omega]; exact c2
theorem rng_fens {w : World} {b off : Nat} {fs : List (Int × Int)} (h : w.rangeAt b off (fenV fs)) : Fens w (some ⟨b, off, none⟩) fs.length fs :=
  ⟨rfl, fun _ => ⟨b, off, rfl, fun j hj => by
    have h1 := h (j * 2) _ (fenV_get fs (by omega))
    have h2 := h (j * 2 + 1) _ (fenV_get fs (by omega))
    unfold fvF at h1 h2
    rw [if_pos (by omega), show j * 2 / 2 = j by omega] at h1
    rw [if_neg (by omega), show (j * 2 + 1) / 2 = j by omega] at h2
    exact ⟨h1, h2⟩⟩⟩
/-- Fences at the head of a block of their own. -/
structure FenB (w : World) (g cap : Nat) (fs : List (Int × Int)) : Prop where
  rng : w.rangeAt g 0 (fenV fs)
  thr : w.there g 0 (cap * 2)
  le : fs.length ≤ cap
theorem FenB.fens {w : World} {g cap : Nat} {fs : List (Int × Int)} (h : FenB w g cap fs) : Fens w (some ⟨g, 0, none⟩) fs.length fs := rng_fens h.rng
theorem info37 : ∃ i, Tryz.prog.info? 37 = some i ∧ i.zero = some (.agg #[.int .i64 0, .int .i64 0]) ∧ i.size = 2 ∧ i.bytes = 16 := info_parts (show (Tryz.prog.info? 37).map (fun i => (i.zero, i.size, i.bytes)) = some (some (.agg #[.int .i64 0, .int .i64 0]), 2, 16) from by kernel_rfl)
theorem und22 : Tryz.prog.underlying 22 = some (.slice 37) := by kernel_rfl
theorem own_fenB {w : World} {base m : Nat} {v : Value} {fs : List (Int × Int)} (h : w.ownsRow base 37 2 v m (fenV fs)) (h0 : 0 < m) (hl : fs.length = m) : ∃ g cap, v = .slice (some ⟨g, 0, none⟩) m cap ∧ base ≤ g ∧ FenB w g cap fs := by
  have hc := fun g hg => World.ownsRow.cells h (g := g) hg
  obtain ⟨_, ⟨_, h1⟩ | ⟨g, cap, cur, rfl, h2, h3, h4, h5, h6, h7⟩⟩ := h
  · omega
  · refine ⟨g, cap, rfl, h2, ⟨fun j v hv => ?_, fun j hj => ?_, by omega⟩⟩
    · have := hc g rfl j v hv
      rwa [Addr.add_mid] at this
    · rw [Nat.zero_add]
      have e := cell_of_row w g j cur 37 (0, 0) h3
      have hj2 : j < cur.size := by omega
      refine ⟨?_, ?_⟩
      · rw [e]
        simp [hj2]
      · simp only [World.frozen?, h3]
        rfl
set_option maxRecDepth 100000 in
set_option maxHeartbeats 8000000 in
/-- slices.Clone at fences -/
theorem f103_any (A : Option Addr) (m c : Nat) (fs : List (Int × Int)) (w : World) (hs : Fens w A m fs) (h0 : 0 < m) (hm : m ≤ 14) :
    Calls Tryz.prog 103 #[.slice A m c] w fun e w' => ∃ g cap, e = .returned (.slice (some ⟨g, 0, none⟩) m cap) ∧ FenB w' g cap fs ∧ Below w.heap.size w w' ∧ w.heap.size ≤ g := by
  have HS := Lib.hid hs
  have HL := Lib.hid hs.len
  obtain ⟨b, off, rfl, _, _⟩ := hs.at_ h0
  clear hs
  go_enter Tryz.func103, Tryz.ntmps103
  have heq : ∀ W, (binOp .eql 22 (.slice (some ⟨b, off, none⟩) m c) (.slice none 0 0)).run Tryz.prog W = .ok (.bool false) W := fun W => Go.Lib.run_eql_slice_nil W 22 37 _ m c 0 0 und22
  go_upto_region 3 with fail
  have hb0 := below_alloc w (.cells #[] 37)
  have hsrc := src_of ((HS.out.below hb0).rng)
  have hlen : (fenV fs).length = m * 2 := by rw [fenV_len, HL.out]
  have hone := fenV_one fs
  have hmx : 0 + m ≤ maxLen := by simp only [maxLen]; omega
  have hby : (0 + m) * 16 ≤ 140737488355328 := by omega
  have hnn : (some (⟨w.heap.size, 0, none⟩ : Addr)) = none → 0 = 0 ∧ 0 = 0 := fun h => by cases h
  have hlt : 0 < 0 + m := by omega
  have h00 : ([] : List Value).length = 0 * 2 := rfl
  have hno : ∀ bb, (some (⟨w.heap.size, 0, none⟩ : Addr)) = some bb → ∀ j u, ([] : List Value)[j]? = some u → (w.alloc (.cells #[] 37)).cell? (bb.add j) = some u := fun _ _ _ _ h => by simp at h
  obtain ⟨i0, hi, hz0, hz1, hz2⟩ := info37
  have h2 : 0 < 2 := by decide
  obtain ⟨fv, hfv⟩ : ∃ v, v = fenV fs := ⟨_, rfl⟩
  rw [← hfv] at hsrc hlen hone
  have HFV := Lib.hid hfv
  have HB0 := Lib.hid hb0
  clear hfv hb0
  go_wp2_with (first | refine wpList_append_grows _ rfl (.tmp 5) (.tmp 6) 22 rfl 37 i0 _ 2 16 und22 hi hz0 hz1 hz2 rfl h2 (some ⟨w.heap.size, 0, none⟩) 0 0 [] rfl hnn h00 hno ⟨b, off, none⟩ m c fv rfl hlen hsrc hone hlt hmx hby ?_)
  rintro v' w' hown hgr
  rw [HFV.out] at hown
  obtain ⟨g, cap, rfl, hg, hF⟩ := own_fenB hown h0 HL.out
  have HF := Lib.hid hF
  have HB : Hid (Below w.heap.size w w') := Lib.hid (below_step HB0.out ⟨hgr.os, hgr.tape, hgr.output, hgr.size, fun k hk => hgr.block k hk (by simp)⟩)
  clear hown hgr hF
  go_wp2
  go_ret
  exact ⟨g, cap, rfl, HF.out, HB.out, by omega⟩
/-- one fence cleared. -/
theorem run_clear_two (w : World) (ty : TypeId) (b o c : Nat) (ht : w.there b o 2) : (Builtin.clear_ #[22] ty #[.slice (some ⟨b, o, none⟩) 1 c]).run Tryz.prog w = .ok (.tuple #[]) (w.setCells b o [.int .i64 0, .int .i64 0]) := by
  obtain ⟨i0, hi, hz, _, _⟩ := info37
  have hv : ∀ w, (zeroValue 37).run Tryz.prog w = .ok (.agg #[.int .i64 0, .int .i64 0]) w := fun w => by simp [zeroValue, typeInfo, hi, hz]
  have hst := run_storeCells_cells (P := Tryz.prog) b o [.int .i64 0, .int .i64 0] 0 w (fun j hj => (ht j hj).1) (fun j hj => (ht j hj).2) (by intro v hv'; simp at hv'; rw [hv']; rfl)
  simp only [Nat.add_zero] at hst
  have hzc : (Builtin.zeroCells (Value.agg #[.int .i64 0, .int .i64 0]).cells 1).toList = [.int .i64 0, .int .i64 0] := by kernel_rfl
  simp [Builtin.clear_, run_underlying und22, hv, hzc, hst]
/-- an append that has room. -/
theorem wpList_append_in {w : World} {ops : Array Oper} {rest : List Oper} {o : Oper} {a : Act} {Q : Exit → Act → World → Prop} (hg : o.guard = none) (s x : Operand) (t : TypeId) (hop : o.op = Op.call { callee := Callee.builtin Builtin.append, args := #[s, x], argTypes := #[t, t] })
    (e : TypeId) (i : TypeInfo) (size : Nat) (h1 : Tryz.prog.underlying t = some (.slice e)) (h2 : Tryz.prog.info? e = some i) (h4 : i.size = size)
    (b off n cap : Nat) (hs : a.eval s = .slice (some ⟨b, off, none⟩) n cap) (ad : Addr) (m c : Nat) (news : List Value) (hx : a.eval x = .slice (some ad) m c) (hn : news.length = m * size)
    (hc : ∀ j u, news[j]? = some u → w.cell? (ad.add j) = some u) (h1c : ∀ u ∈ news, u.oneCell' = true) (hr : n + m ≤ cap) (L o2 : Nat) (hL : n + m = L) (ho2 : off + n * size = o2) (hsp : w.there b o2 news.length)
    (h : wpList Tryz.prog ops Q rest (a.put o.dst (.slice (some ⟨b, off, none⟩) L cap)) (w.setCells b o2 news)) : wpList Tryz.prog ops Q (o :: rest) a w := by
  subst hL
  subst h4
  subst ho2
  refine wpList_plain hg fun K hK => ?_
  have hrun := run_append_room_cells (P := Tryz.prog) w t o.type e i h1 h2 b off n cap ad m c news hn hc h1c hr (fun j hj => (hsp j hj).1) (fun j hj => (hsp j hj).2)
  unfold Oper.wp
  simp [execOp, hop, resolve, invoke, builtin, hs, hx, hrun, Result.andThen]
  exact hK _ _ h
set_option maxRecDepth 100000 in
set_option maxHeartbeats 8000000 in
/-- slices.Delete of the first fence -/
theorem f102_any (g cap m : Nat) (fs : List (Int × Int)) (w : World) (h : FenB w g cap fs) (hl : fs.length = m) (h0 : 0 < m) (hm : m ≤ 14) :
    Calls Tryz.prog 102 #[.slice (some ⟨g, 0, none⟩) m cap, .int .i64 0, .int .i64 1] w fun e w' => e = .returned (.slice (some ⟨g, 0, none⟩) (m - 1) cap) ∧ FenB w' g cap fs.tail ∧ Below g w w' := by
  have H := Lib.hid h
  have HL := Lib.hid hl
  have hle := h.le
  have hmc : m ≤ cap := by omega
  have m1 : 1 ≤ m := h0
  have c1 : 1 ≤ cap := by omega
  have mi1 : (1 : Int) ≤ (m : Int) := by omega
  have mi2 : (m : Int) ≤ (cap : Int) := by omega
  have ci1 : (1 : Int) ≤ (cap : Int) := by omega
  clear h hl hle
  go_enter Tryz.func102, Tryz.ntmps102
  go_upto_region 5 with fail
  go_still_tail 6, (by kernel_rfl)
  change wpList _ _ _ _ _ w.drew
  have hlt : (fenV fs.tail).length = (m - 1) * 2 := by rw [fenV_len, List.length_tail, HL.out]
  obtain ⟨ad, had, hsrc⟩ : ∃ ad, (if cap = 1 then some (⟨g, 0, none⟩ : Addr) else some ⟨g, 2, none⟩) = some ad ∧ ∀ j u, (fenV fs.tail)[j]? = some u → w.drew.cell? (ad.add j) = some u := by
    by_cases e : cap = 1
    · rw [if_pos e]
      refine ⟨_, rfl, fun j u hj => ?_⟩
      have := (fenV_at hj).1
      rw [fenV_len] at hlt
      omega
    · rw [if_neg e]
      refine ⟨_, rfl, fun j u hj => ?_⟩
      obtain ⟨h1, rfl⟩ := fenV_at hj
      rw [Addr.add_mid, fvF_tail, show 2 + j = 0 + (j + 2) by omega]
      exact H.out.rng (j + 2) _ (fenV_get fs (by rw [List.length_tail] at h1; omega))
  rw [had]
  have hone := fenV_one fs.tail
  have hr : 0 + (m - 1) ≤ cap := by omega
  have hL : 0 + (m - 1) = m - 1 := by omega
  have ho2 : 0 + 0 * 2 = 0 := rfl
  have hsp : w.drew.there g 0 (fenV fs.tail).length := fun j hj => H.out.thr j (by omega)
  obtain ⟨i0, hi, _, hz1, _⟩ := info37
  have HR1 : Hid ((w.drew.setCells g 0 (fenV fs.tail)).rangeAt g 0 (fenV fs.tail)) := Lib.hid (World.rangeAt_setCells_same _ _ _ _ hsp)
  have HT1 : Hid ((w.drew.setCells g 0 (fenV fs.tail)).there g 0 (cap * 2)) := Lib.hid (World.there_setCells (show w.drew.there g 0 (cap * 2) from H.out.thr) g 0 _)
  have HB1 : Hid (Below g w (w.drew.setCells g 0 (fenV fs.tail))) := Lib.hid (below_setsF (Nat.le_refl _) _ _ (Below.refl _ _).drew)
  obtain ⟨fv, hfv⟩ : ∃ v, v = fenV fs.tail := ⟨_, rfl⟩
  rw [← hfv] at hlt hsrc hone hsp HR1 HT1 HB1
  have HFV := Lib.hid hfv
  clear hfv had
  go_upto_region 6 with (first | refine wpList_append_in rfl (.tmp 22) (.tmp 25) 22 rfl 37 i0 2 und22 hi hz1 g 0 0 cap rfl ad (m - 1) (cap - 1) fv rfl hlt hsrc hone hr (m - 1) 0 hL ho2 hsp ?_)
  generalize w.drew.setCells g 0 fv = W1 at *
  have k1 : m - 1 ≤ m := by omega
  have k2 : (0 : Int) ≤ ((m - 1 : Nat) : Int) := by omega
  have k3 : ((m - 1 : Nat) : Int) ≤ (m : Int) := by omega
  have k4 : ¬ cap - (m - 1) = 0 := by omega
  have k5 : m - (m - 1) = 1 := by omega
  have hcl : ∀ ty, (Builtin.clear_ #[22] ty #[.slice (some ⟨g, (m - 1) * 2, none⟩) 1 (cap - (m - 1))]).run Tryz.prog W1 = .ok (.tuple #[]) (W1.setCells g ((m - 1) * 2) [.int .i64 0, .int .i64 0]) := fun ty =>
    run_clear_two W1 ty g ((m - 1) * 2) (cap - (m - 1)) fun j hj => by
      have := HT1.out ((m - 1) * 2 + j) (by omega)
      rwa [Nat.zero_add] at this
  go_wp2
  go_ret
  refine ⟨rfl, ⟨?_, World.there_setCells HT1.out g _ _, ?_⟩, below_setsF (Nat.le_refl _) _ _ HB1.out⟩
  · rw [← HFV.out]
    exact World.rangeAt_setCells_apart HR1.out g _ _ (.inr (.inl (by omega)))
  · rw [List.length_tail, HL.out]; omega
set_option maxHeartbeats 4000000 in
/-- without, the first fence -/
theorem f78_any (A : Option Addr) (m c : Nat) (fs : List (Int × Int)) (w : World) (hs : Fens w A m fs) (h0 : 0 < m) (hm : m ≤ 14) :
    Calls Tryz.prog 78 #[.slice A m c, .int .i64 0] w fun e w' => ∃ g cap, e = .returned (.slice (some ⟨g, 0, none⟩) (m - 1) cap) ∧ FenB w' g cap fs.tail ∧ Below w.heap.size w w' ∧ w.heap.size ≤ g := by
  have HL := Lib.hid hs.len
  have K := Lib.hid (f103_any A m c fs w hs h0 hm)
  clear hs
  go_enter Tryz.func78, Tryz.ntmps78
  go_wp2_with fail
  refine K.out.mono ?_
  rintro e w1 ⟨g, cap, rfl, hF, hb, hg⟩
  have HB := Lib.hid hb
  have K2 := Lib.hid (f102_any g cap m fs w1 hF HL.out h0 hm)
  clear hF hb
  go_wp2_with fail
  refine K2.out.mono ?_
  rintro e w2 ⟨rfl, hF, hb⟩
  have HF := Lib.hid hF
  have HB2 := Lib.hid (HB.out.trans (hb.mono hg))
  clear hF hb
  go_wp2
  go_ret
  exact ⟨g, cap, rfl, HF.out, HB2.out, hg⟩
/-! ### closing a fence -/
theorem FenB.set {w : World} {g cap k : Nat} {fs : List (Int × Int)} (h : FenB w g cap fs) (hk : k < fs.length) (y : Int × Int) : FenB (w.setCells g (k * 2) [.int .i64 y.1, .int .i64 y.2]) g cap (fs.set k y) := by
  have hth := h.thr
  have hle := h.le
  refine ⟨fun x v hv => ?_, World.there_setCells hth g _ _, by rw [List.length_set]; exact hle⟩
  obtain ⟨hx, rfl⟩ := fenV_at hv
  rw [List.length_set] at hx
  rw [Nat.zero_add]
  by_cases e : x / 2 = k
  · have hin := World.rangeAt_setCells_same w g (k * 2) [.int .i64 y.1, .int .i64 y.2] (fun j hj => by
      have := hth (k * 2 + j) (by simp at hj; omega)
      rwa [Nat.zero_add] at this)
    unfold fvF
    rw [e, List.getD_eq_getElem?_getD, List.getElem?_set_self hk, Option.getD_some]
    by_cases e2 : x % 2 = 0
    · rw [if_pos e2]
      have := hin 0 _ rfl
      rwa [show k * 2 + 0 = x by omega] at this
    · rw [if_neg e2]
      have := hin 1 _ rfl
      rwa [show k * 2 + 1 = x by omega] at this
  · have hv2 := h.rng x _ (fenV_get fs hx)
    rw [Nat.zero_add] at hv2
    rw [World.cell?_setCells_out g _ _ w ⟨g, x, none⟩ (fun _ _ => by simp only [List.length_cons, List.length_nil]; omega), hv2]
    unfold fvF
    rw [List.getD_eq_getElem?_getD, List.getD_eq_getElem?_getD, List.getElem?_set_ne (fun h => e h.symm)]
theorem FenB.below {W W' : World} {g cap : Nat} {fs : List (Int × Int)} (h : FenB W g cap fs) (hb : Below W.heap.size W W') (hg : g < W.heap.size) : FenB W' g cap fs :=
  ⟨fun x v hv => (hb.cell (by exact hg)).trans (h.rng x v hv), fun j hj => by
    have := h.thr j hj
    refine ⟨by rw [hb.cell (by exact hg)]; exact this.1, ?_⟩
    rw [← this.2]
    simp only [World.frozen?, hb.block g hg], h.le⟩
def clTo (f : Int × Int) (l : List (Int × Int)) (k : Nat) : List (Int × Int) := (List.range l.length).map fun i => if i < k then clF f (l.getD i (0, 0)) else l.getD i (0, 0)
theorem clTo_len (f : Int × Int) (l : List (Int × Int)) (k : Nat) : (clTo f l k).length = l.length := by simp [clTo]
theorem clTo_get (f : Int × Int) (l : List (Int × Int)) {k : Nat} (hk : k < l.length) : (clTo f l k).getD k (0, 0) = l.getD k (0, 0) := by
  simp [clTo, List.getD_eq_getElem?_getD, hk]
theorem clTo_zero (f : Int × Int) (l : List (Int × Int)) : clTo f l 0 = l := by
  apply List.ext_getElem
  · simp [clTo]
  · intro i h1 h2
    simp [clTo, List.getD_eq_getElem?_getD, h2]
theorem clTo_all (f : Int × Int) (l : List (Int × Int)) : clTo f l l.length = l.map (clF f) := by
  apply List.ext_getElem
  · simp [clTo]
  · intro i h1 h2
    have h3 : i < l.length := by simpa using h2
    simp [clTo, List.getD_eq_getElem?_getD, h3]
theorem clTo_succ (f : Int × Int) (l : List (Int × Int)) (k : Nat) : clTo f l (k + 1) = (clTo f l k).set k (clF f (l.getD k (0, 0))) := by
  apply List.ext_getElem
  · simp [clTo]
  · intro i h1 h2
    have h3 : i < l.length := by simpa [clTo] using h1
    rw [List.getElem_set]
    simp only [clTo, List.getElem_map, List.getElem_range]
    by_cases e : k = i
    · subst e; rw [if_pos (by omega), if_pos rfl]
    · rw [if_neg e]
      by_cases e2 : i < k
      · rw [if_pos e2, if_pos (by omega)]
      · rw [if_neg e2, if_neg (by omega)]
set_option maxRecDepth 100000 in
set_option maxHeartbeats 8000000 in
/-- closed, the first fence -/
theorem f80_any (A : Option Addr) (m c : Nat) (fs : List (Int × Int)) (w : World) (hs : Fens w A m fs) (h0 : 0 < m) (hm : m ≤ 14) :
    Calls Tryz.prog 80 #[.slice A m c, .int .i64 0] w fun e w' => ∃ g cap, e = .returned (.slice (some ⟨g, 0, none⟩) (m - 1) cap) ∧ FenB w' g cap (clL fs) ∧ Below w.heap.size w w' ∧ w.heap.size ≤ g := by
  have HS := Lib.hid hs
  have HL := Lib.hid hs.len
  obtain ⟨b, off, rfl, c1, c2⟩ := hs.at_ h0
  have HC : Hid (clL fs = fs.tail.map (clF (fs.getD 0 (0, 0)))) := Lib.hid rfl
  rw [Nat.zero_mul, Nat.add_zero] at c1 c2
  obtain ⟨f, hf⟩ : ∃ f, f = fs.getD 0 (0, 0) := ⟨_, rfl⟩
  rw [← hf] at c1 c2 HC
  clear hf hs
  obtain ⟨fa, fb⟩ := f
  have b1 := below_alloc w (.cells #[.int .i64 fa, .int .i64 fb] 37)
  have K := Lib.hid (f78_any (some ⟨b, off, none⟩) m c fs _ (HS.out.below b1) h0 hm)
  have B1 := Lib.hid b1
  have m1 : (0 : Int) < (m : Int) := by omega
  clear b1
  go_enter Tryz.func80, Tryz.ntmps80
  go_wp2_with fail
  refine K.out.mono ?_
  rintro e w1 ⟨g, cap, rfl, hF, hb, hg⟩
  have s1 : (w.alloc (.cells #[.int .i64 fa, .int .i64 fb] 37)).heap.size = w.heap.size + 1 := by simp
  have d1 : w1.cell? ⟨w.heap.size, 0, none⟩ = some (.int .i64 fa) := (hb.cell (by rw [s1]; simp only; omega)).trans ((cell_new w _ 37 0).trans rfl)
  have d2 : w1.cell? ⟨w.heap.size, 1, none⟩ = some (.int .i64 fb) := (hb.cell (by rw [s1]; simp only; omega)).trans ((cell_new w _ 37 1).trans rfl)
  have D1 := Lib.hid d1
  have D2 := Lib.hid d2
  have HB1 := Lib.hid (below_step B1.out hb)
  have hgw : w.heap.size + 1 ≤ g := by omega
  have HF0 : Hid (FenB w1 g cap (clTo (fa, fb) fs.tail 0)) := Lib.hid (by rw [clTo_zero]; exact hF)
  have HTL : Hid (fs.tail.length = m - 1) := Lib.hid (by rw [List.length_tail, HL.out])
  have HSUC := Lib.hid (clTo_succ (fa, fb) fs.tail)
  have HGET : Hid (∀ k, k < m - 1 → (clTo (fa, fb) fs.tail k).getD k (0, 0) = fs.tail.getD k (0, 0)) := Lib.hid fun k hk => clTo_get _ _ (by rw [HTL.out]; exact hk)
  have HCLN : Hid (∀ k, (clTo (fa, fb) fs.tail k).length = m - 1) := Lib.hid fun k => by rw [clTo_len, HTL.out]
  have HEND : Hid (clTo (fa, fb) fs.tail (m - 1) = clL fs) := Lib.hid (by rw [HC.out, ← clTo_all, HTL.out])
  clear d1 d2 hF hb c1 c2 s1 hg
  go_wp2
  go_loopw [18] (fun ki wr => ∃ k : Nat, k ≤ m - 1 ∧ ki = .int .i64 (k : Int) ∧ Hid (FenB wr g cap (clTo (fa, fb) fs.tail k)) ∧ Hid (wr.cell? ⟨w.heap.size, 0, none⟩ = some (.int .i64 fa)) ∧ Hid (wr.cell? ⟨w.heap.size, 1, none⟩ = some (.int .i64 fb)) ∧ Hid (Below w.heap.size w wr)) (fun ki _ => m - (intOf ki).toNat)
  case atStart => exact ⟨0, by omega, rfl, HF0, D1, D2, HB1⟩
  case round => as_aux_lemma =>
    obtain ⟨k, hk, rfl, HF, D1, D2, HB⟩ := hrel
    by_cases hkm : k < m - 1
    · have k0 : (0 : Int) ≤ (k : Int) := by omega
      have km : (k : Int) < ((m - 1 : Nat) : Int) := by omega
      obtain ⟨b', off', e', c1, c2⟩ := HF.out.fens.at_ (k := k) (by rw [HCLN.out]; exact hkm)
      injection e' with e'
      injection e' with e1 e2
      subst e1 e2
      rw [HGET.out k hkm, Nat.zero_add] at c1 c2
      have HS1 := Lib.hid (HSUC.out k)
      have HST := Lib.hid (HF.out.set (k := k) (by rw [HCLN.out]; exact hkm))
      obtain ⟨x, hx⟩ : ∃ x, x = fs.tail.getD k (0, 0) := ⟨_, rfl⟩
      rw [← hx] at c1 c2 HS1
      clear hx
      obtain ⟨xa, xb⟩ := x
      have hgl : g < wr.heap.size := lt_of_cell c1
      have d1 : ∀ o, (wr.alloc o).cell? ⟨w.heap.size, 0, none⟩ = some (.int .i64 fa) := fun o => ((below_alloc wr o).cell (lt_of_cell D1.out)).trans D1.out
      have d2 : ∀ o, (wr.alloc o).cell? ⟨w.heap.size, 1, none⟩ = some (.int .i64 fb) := fun o => ((below_alloc wr o).cell (lt_of_cell D2.out)).trans D2.out
      have d3 : ∀ o, (wr.alloc o).cell? ⟨g, k * 2, none⟩ = some (.int .i64 xa) := fun o => ((below_alloc wr o).cell hgl).trans c1
      have d4 : ∀ o, (wr.alloc o).cell? ⟨g, k * 2 + 1, none⟩ = some (.int .i64 xb) := fun o => ((below_alloc wr o).cell hgl).trans c2
      have g1 : g ≠ wr.heap.size := by omega
      have g2 : wr.heap.size ≠ g := by omega
      have hfz : ∀ o x, x < cap * 2 → (wr.alloc o).frozen? ⟨g, x, none⟩ = false := fun o x hx => by
        have := (HF.out.thr x hx).2
        rw [Nat.zero_add] at this
        rw [← this]
        simp only [World.frozen?, Below.heap_alloc wr o g hgl]
      have hcap : k * 2 + 1 < cap * 2 := by have := HF.out.le; rw [HCLN.out] at this; omega
      have f1 : ∀ o, (wr.alloc o).frozen? ⟨g, k * 2, none⟩ = false := fun o => hfz o _ (by omega)
      have f2 : ∀ o, (wr.alloc o).frozen? ⟨g, k * 2 + 1, none⟩ = false := fun o => hfz o _ hcap
      have f3 : ∀ v o, ((wr.setCell ⟨g, k * 2, none⟩ v).alloc o).frozen? ⟨g, k * 2 + 1, none⟩ = false := fun v o => by
        rw [← f2 o]
        have e1 : ((wr.setCell ⟨g, k * 2, none⟩ v).alloc o).frozen? ⟨g, k * 2 + 1, none⟩ = (wr.setCell ⟨g, k * 2, none⟩ v).frozen? ⟨g, k * 2 + 1, none⟩ := by
          simp only [World.frozen?, Below.heap_alloc (wr.setCell ⟨g, k * 2, none⟩ v) o g (by simpa [World.setCell] using hgl)]
        have e2 : (wr.alloc o).frozen? ⟨g, k * 2 + 1, none⟩ = wr.frozen? ⟨g, k * 2 + 1, none⟩ := by
          simp only [World.frozen?, Below.heap_alloc wr o g hgl]
        rw [e1, e2, World.frozen?_setCell]
      have HALL : Hid (∀ (y : Int × Int) (o : Obj), FenB ((wr.setCells g (k * 2) [.int .i64 y.1, .int .i64 y.2]).alloc o) g cap ((clTo (fa, fb) fs.tail k).set k y) ∧
          ((wr.setCells g (k * 2) [.int .i64 y.1, .int .i64 y.2]).alloc o).cell? ⟨w.heap.size, 0, none⟩ = some (.int .i64 fa) ∧ ((wr.setCells g (k * 2) [.int .i64 y.1, .int .i64 y.2]).alloc o).cell? ⟨w.heap.size, 1, none⟩ = some (.int .i64 fb) ∧
          Below w.heap.size w ((wr.setCells g (k * 2) [.int .i64 y.1, .int .i64 y.2]).alloc o)) := Lib.hid fun y o => by
        have bs : Below (w.heap.size + 1) wr (wr.setCells g (k * 2) [.int .i64 y.1, .int .i64 y.2]) := below_setsF hgw _ _ (Below.refl _ _)
        have hsz := bs.size
        have ba := below_alloc (wr.setCells g (k * 2) [.int .i64 y.1, .int .i64 y.2]) o
        have hwl := lt_of_cell D1.out
        have bb := bs.trans (ba.mono (show w.heap.size + 1 ≤ _ by simp only at hwl; omega))
        exact ⟨(HST y).below ba (by omega), (bb.cell (by simp only; omega)).trans D1.out, (bb.cell (by simp only; omega)).trans D2.out, HB.out.trans (bb.mono (by omega))⟩
      clear hfz HST
      have HCF : Hid (clF (fa, fb) (xa, xb) = (if xa = fb then fa else xa, if xb = fb then fa else xb)) := Lib.hid rfl
      by_cases h1 : xa = fb
      · have q1 : (xa == fb) = true := by simp [h1]
        by_cases h2 : xb = fb
        · have q2 : (xb == fb) = true := by simp [h2]
          have HQ : Hid (clTo (fa, fb) fs.tail (k + 1) = (clTo (fa, fb) fs.tail k).set k (fa, fa)) := Lib.hid (by rw [HS1.out, HCF.out, if_pos h1, if_pos h2])
          clear h1 h2
          go_wp2
          go_roundw
          case rel => exact ⟨k + 1, by omega, by go_num, Lib.hid (by rw [HQ.out]; exact (HALL.out (fa, fa) _).1), Lib.hid (HALL.out (fa, fa) _).2.1, Lib.hid (HALL.out (fa, fa) _).2.2.1, Lib.hid (HALL.out (fa, fa) _).2.2.2⟩
          case measure => simp [intOf]; omega
        · have q2 : (xb == fb) = false := by simp [h2]
          have HQ : Hid (clTo (fa, fb) fs.tail (k + 1) = (clTo (fa, fb) fs.tail k).set k (fa, xb)) := Lib.hid (by rw [HS1.out, HCF.out, if_pos h1, if_neg h2])
          clear h1 h2
          go_wp2
          go_roundw
          case rel => exact ⟨k + 1, by omega, by go_num, Lib.hid (by rw [HQ.out]; exact (HALL.out (fa, xb) _).1), Lib.hid (HALL.out (fa, xb) _).2.1, Lib.hid (HALL.out (fa, xb) _).2.2.1, Lib.hid (HALL.out (fa, xb) _).2.2.2⟩
          case measure => simp [intOf]; omega
      · have q1 : (xa == fb) = false := by simp [h1]
        by_cases h2 : xb = fb
        · have q2 : (xb == fb) = true := by simp [h2]
          have HQ : Hid (clTo (fa, fb) fs.tail (k + 1) = (clTo (fa, fb) fs.tail k).set k (xa, fa)) := Lib.hid (by rw [HS1.out, HCF.out, if_neg h1, if_pos h2])
          clear h1 h2
          go_wp2
          go_roundw
          case rel => exact ⟨k + 1, by omega, by go_num, Lib.hid (by rw [HQ.out]; exact (HALL.out (xa, fa) _).1), Lib.hid (HALL.out (xa, fa) _).2.1, Lib.hid (HALL.out (xa, fa) _).2.2.1, Lib.hid (HALL.out (xa, fa) _).2.2.2⟩
          case measure => simp [intOf]; omega
        · have q2 : (xb == fb) = false := by simp [h2]
          have HQ : Hid (clTo (fa, fb) fs.tail (k + 1) = (clTo (fa, fb) fs.tail k).set k (xa, xb)) := Lib.hid (by rw [HS1.out, HCF.out, if_neg h1, if_neg h2])
          clear h1 h2
          go_wp2
          go_roundw
          case rel => exact ⟨k + 1, by omega, by go_num, Lib.hid (by rw [HQ.out]; exact (HALL.out (xa, xb) _).1), Lib.hid (HALL.out (xa, xb) _).2.1, Lib.hid (HALL.out (xa, xb) _).2.2.1, Lib.hid (HALL.out (xa, xb) _).2.2.2⟩
          case measure => simp [intOf]; omega
    · obtain rfl : k = m - 1 := by omega
      go_wp2
      go_ret
      exact ⟨g, cap, rfl, by have := HF.out; rw [HEND.out] at this; exact this, HB.out, by omega⟩
end Go.Proofs.YtmepndnckcpgjaaGreat

namespace Go.Proofs.YtmepndnckcpgjaaGreat
open Go.RowKit
set_option maxRecDepth 100000 in
set_option maxHeartbeats 8000000 in
/-- (*garden).polynomial, no fence -/
theorem f55_zero (p n : Nat) (A : Option Addr) (c : Nat) (fs : List (Int × Int)) (w : World) (hg : Gar w p n A 0 c fs) :
    Calls Tryz.prog 55 #[.pointer (some ⟨p, 0, none⟩)] w fun e w' => ∃ q, e = .returned (.pointer (some ⟨q, 0, none⟩)) ∧ Tms w' q (polyF n 0 fs) ∧ Below w.heap.size w w' ∧ w.heap.size ≤ q := by
  have cf := hg.cf
  have HQ : Hid (polyF n 0 fs = oneT) := Lib.hid rfl
  clear hg
  go_enter Tryz.func55, Tryz.ntmps55
  go_wp2
  go_ret
  exact ⟨_, rfl, by rw [HQ.out]; exact Blk.new w 225 114 _ (by kernel_rfl), below_alloc _ _, Nat.le_refl _⟩
set_option maxRecDepth 100000 in
set_option maxHeartbeats 16000000 in
/-- (*garden).polynomial -/
theorem f55_any : ∀ (m : Nat), m ≤ 10 → ∀ (p n : Nat) (A : Option Addr) (c : Nat) (fs : List (Int × Int)) (w : World), Gar w p n A m c fs → garE n fs = 0 →
    Calls Tryz.prog 55 #[.pointer (some ⟨p, 0, none⟩)] w fun e w' => ∃ q, e = .returned (.pointer (some ⟨q, 0, none⟩)) ∧ Tms w' q (polyF n m fs) ∧ Below w.heap.size w w' ∧ w.heap.size ≤ q
  | 0, _, p, n, A, c, fs, w, hg, _ => f55_zero p n A c fs w hg
  | m + 1, hm, p, n, A, c, fs, w, hg, h => by
    have IH := Lib.hid (f55_any m (by omega))
    have HG := Lib.hid hg
    have HE := Lib.hid h
    have HL : Hid (fs.length = m + 1) := Lib.hid hg.fens.len
    have HFS := Lib.hid hg.fens
    obtain ⟨b, off, rfl, c1, c2⟩ := hg.fens.at_ (k := 0) (by omega)
    rw [Nat.zero_mul, Nat.add_zero] at c1 c2
    have cf := hg.cf
    have HQ : Hid (polyF n (m + 1) fs = if (fs.getD 0 (0, 0)).1 = (fs.getD 0 (0, 0)).2 then tyT (polyF n m fs.tail) else if brB n fs 0 = true then txT (polyF n m (clL fs)) else plusT (polyF n m fs.tail) (polyF n m (clL fs))) := Lib.hid rfl
    have HTL : Hid (fs.tail.length = m) := Lib.hid (by rw [List.length_tail, HL.out]; rfl)
    have HCL : Hid ((clL fs).length = m) := Lib.hid (by unfold clL; rw [List.length_map, HTL.out])
    have HE1 := Lib.hid (garE_tail h)
    have HE2 := Lib.hid (garE_cl h (by rw [HL.out]; omega))
    have K78 : Hid (∀ W, Below w.heap.size w W → Calls Tryz.prog 78 #[.slice (some ⟨b, off, none⟩) (m + 1) c, .int .i64 0] W fun e w' => ∃ g cap, e = .returned (.slice (some ⟨g, 0, none⟩) m cap) ∧ FenB w' g cap fs.tail ∧ Below W.heap.size W w' ∧ W.heap.size ≤ g) :=
      Lib.hid fun W hW => f78_any _ (m + 1) c fs W (HFS.out.below hW) (by omega) (by omega)
    have K80 : Hid (∀ W, Below w.heap.size w W → Calls Tryz.prog 80 #[.slice (some ⟨b, off, none⟩) (m + 1) c, .int .i64 0] W fun e w' => ∃ g cap, e = .returned (.slice (some ⟨g, 0, none⟩) m cap) ∧ FenB w' g cap (clL fs) ∧ Below W.heap.size W w' ∧ W.heap.size ≤ g) :=
      Lib.hid fun W hW => f80_any _ (m + 1) c fs W (HFS.out.below hW) (by omega) (by omega)
    obtain ⟨f, hf⟩ : ∃ f, f = fs.getD 0 (0, 0) := ⟨_, rfl⟩
    rw [← hf] at c1 c2 HQ
    clear hf hg h
    obtain ⟨fa, fb⟩ := f
    have b1 := below_alloc w (.cells #[.int .i64 fa, .int .i64 fb] 37)
    have HB1 := Lib.hid b1
    have D1 : Hid ((w.alloc (.cells #[.int .i64 fa, .int .i64 fb] 37)).heap[w.heap.size]? = some (.cells #[.int .i64 fa, .int .i64 fb] 37 (0, 0))) := Lib.hid (heap_alloc_new w _)
    clear b1
    have hm0 : ¬ ((m + 1 : Nat) : Int) = 0 := by omega
    go_enter Tryz.func55, Tryz.ntmps55
    go_upto_region 4 with fail
    generalize w.alloc (.cells #[.int .i64 fa, .int .i64 fb] 37) = W1 at *
    refine wp_region_held_drew (S := fun W => Below w.heap.size w W) (by kernel_rfl) (HB1.out.drew) (fun hS => ?_)
    refine wpAnyH_take (i := 0) (oi := { dst := some 25, op := Op.move (Operand.tmp 0), type := 59, pos := "fence.go:114", after := #[], guard := none }) (v := .pointer (some ⟨p, 0, none⟩)) rfl (by kernel_rfl) (by kernel_rfl) (by kernel_rfl) (fun _ _ _ h => h) (Or.inl ⟨by kernel_rfl, fun W hSW => by kernel_rfl⟩) hS ?_
    try simp only [Act.put, List.setIfInBounds_toArray, List.set_cons_zero, List.set_cons_succ]
    refine wpAnyH_take (i := 1) (oi := { dst := some 26, op := Op.nilCheck (Operand.tmp 25), type := 0, pos := "fence.go:114", after := #[{ on := 0, ground := Ground.data }], guard := none }) (v := .pointer (some ⟨p, 0, none⟩)) rfl (by kernel_rfl) (by kernel_rfl) (by kernel_rfl) (fun _ _ _ h => h) (Or.inl ⟨by kernel_rfl, fun W hSW => by kernel_rfl⟩) hS ?_
    try simp only [Act.put, List.setIfInBounds_toArray, List.set_cons_zero, List.set_cons_succ]
    refine wpAnyH_take (i := 2) (oi := { dst := some 27, op := Op.fieldAddr 85 (Operand.tmp 26) 0, type := 0, pos := "fence.go:114", after := #[{ on := 1, ground := Ground.data }], guard := none }) (v := .pointer (some ⟨p, 0, none⟩)) rfl (by kernel_rfl) (by kernel_rfl) (by kernel_rfl) (fun _ _ _ h => h) (Or.inl ⟨by kernel_rfl, fun W hSW => by go_simp⟩) hS ?_
    try simp only [Act.put, List.setIfInBounds_toArray, List.set_cons_zero, List.set_cons_succ]
    refine wpAnyH_take (i := 3) (oi := { dst := some 28, op := Op.load 3 (Operand.tmp 27), type := 3, pos := "fence.go:114", after := #[{ on := 2, ground := Ground.data }], guard := none }) (v := .int .i64 (n : Int)) rfl (by kernel_rfl) (by kernel_rfl) (by kernel_rfl) (fun _ _ _ h => h) (Or.inl ⟨by kernel_rfl, fun W hSW => by have cn := (HG.out.below hSW).cn; have cf := (HG.out.below hSW).cf; clear hSW; go_simp⟩) hS ?_
    try simp only [Act.put, List.setIfInBounds_toArray, List.set_cons_zero, List.set_cons_succ]
    refine wpAnyH_take (i := 4) (oi := { dst := some 29, op := Op.move (Operand.tmp 0), type := 59, pos := "fence.go:114", after := #[], guard := none }) (v := .pointer (some ⟨p, 0, none⟩)) rfl (by kernel_rfl) (by kernel_rfl) (by kernel_rfl) (fun _ _ _ h => h) (Or.inl ⟨by kernel_rfl, fun W hSW => by kernel_rfl⟩) hS ?_
    try simp only [Act.put, List.setIfInBounds_toArray, List.set_cons_zero, List.set_cons_succ]
    refine wpAnyH_take (i := 5) (oi := { dst := some 30, op := Op.nilCheck (Operand.tmp 29), type := 0, pos := "fence.go:114", after := #[{ on := 4, ground := Ground.data }], guard := none }) (v := .pointer (some ⟨p, 0, none⟩)) rfl (by kernel_rfl) (by kernel_rfl) (by kernel_rfl) (fun _ _ _ h => h) (Or.inl ⟨by kernel_rfl, fun W hSW => by kernel_rfl⟩) hS ?_
    try simp only [Act.put, List.setIfInBounds_toArray, List.set_cons_zero, List.set_cons_succ]
    refine wpAnyH_take (i := 6) (oi := { dst := some 31, op := Op.fieldAddr 85 (Operand.tmp 30) 1, type := 0, pos := "fence.go:114", after := #[{ on := 5, ground := Ground.data }], guard := none }) (v := .pointer (some ⟨p, 1, none⟩)) rfl (by kernel_rfl) (by kernel_rfl) (by kernel_rfl) (fun _ _ _ h => h) (Or.inl ⟨by kernel_rfl, fun W hSW => by go_simp⟩) hS ?_
    try simp only [Act.put, List.setIfInBounds_toArray, List.set_cons_zero, List.set_cons_succ]
    refine wpAnyH_take (i := 7) (oi := { dst := some 32, op := Op.load 22 (Operand.tmp 31), type := 22, pos := "fence.go:114", after := #[{ on := 6, ground := Ground.data }], guard := none }) (v := .slice (some ⟨b, off, none⟩) (m + 1) c) rfl (by kernel_rfl) (by kernel_rfl) (by kernel_rfl) (fun _ _ _ h => h) (Or.inl ⟨by kernel_rfl, fun W hSW => by have cn := (HG.out.below hSW).cn; have cf := (HG.out.below hSW).cf; clear hSW; go_simp⟩) hS ?_
    try simp only [Act.put, List.setIfInBounds_toArray, List.set_cons_zero, List.set_cons_succ]
    refine wpAnyH_ready (rs := [8]) (by kernel_rfl) (by simp) ?_
    refine AllReadyH.cons (o := { dst := some 33, op := Op.call { callee := Callee.value (Operand.func 78), args := #[Operand.tmp 32, Operand.const (Value.int IntKind.i64 0)], argTypes := #[22, 3] }, type := 22, pos := "fence.go:114", after := #[{ on := 7, ground := Ground.data }], guard := none }) rfl (fun K hK => ?_) AllReadyH.nil
    go_simp
    refine Calls.mono (K78.out _ hS) ?_
    rintro e w1 ⟨g1, cap1, rfl, hF, hb, hs1⟩
    have HBa := Lib.hid (below_step hS hb)
    have HFa := Lib.hid hF
    have hwbw1 := Lib.hid hb
    clear hF hb
    refine hK.out _ _ HBa.out (fun hS => ?_)
    clear hK K
    try simp only [Act.put, List.setIfInBounds_toArray, List.set_cons_zero, List.set_cons_succ]
    refine wpAnyH_take (i := 9) (oi := { dst := some 34, op := Op.build 85 #[(0, Operand.tmp 28), (1, Operand.tmp 33)], type := 85, pos := "fence.go:114", after := #[{ on := 3, ground := Ground.data }, { on := 8, ground := Ground.data }], guard := none }) (v := .agg #[.int .i64 (n : Int), .slice (some ⟨g1, 0, none⟩) m cap1]) rfl (by kernel_rfl) (by kernel_rfl) (by kernel_rfl) (fun _ _ _ h => h) (Or.inl ⟨by kernel_rfl, fun W hSW => by go_simp⟩) hS ?_
    try simp only [Act.put, List.setIfInBounds_toArray, List.set_cons_zero, List.set_cons_succ]
    refine wpAnyH_ready (rs := [10]) (by kernel_rfl) (by simp) ?_
    refine AllReadyH.cons (o := { dst := some 35, op := Op.box 85 (Operand.tmp 34), type := 59, pos := "fence.go:114", after := #[{ on := 9, ground := Ground.data }], guard := none }) rfl (fun K hK => ?_) AllReadyH.nil
    go_simp
    refine hK.out _ _ (hS.alloc hS.size _) (fun hS => ?_)
    clear hK K
    try simp only [Act.put, List.setIfInBounds_toArray, List.set_cons_zero, List.set_cons_succ]
    refine wpAnyH_take (i := 11) (oi := { dst := some 4, op := Op.assign (Operand.tmp 35), type := 59, pos := "fence.go:114", after := #[{ on := 10, ground := Ground.data }, { on := 8, ground := Ground.chain }, { on := 0, ground := Ground.phase }, { on := 1, ground := Ground.phase }, { on := 2, ground := Ground.phase }, { on := 3, ground := Ground.phase }, { on := 4, ground := Ground.phase }, { on := 5, ground := Ground.phase }, { on := 6, ground := Ground.phase }, { on := 7, ground := Ground.phase }, { on := 8, ground := Ground.phase }, { on := 9, ground := Ground.phase }, { on := 10, ground := Ground.phase }], guard := none }) (v := .pointer (some ⟨w1.heap.size, 0, none⟩)) rfl (by kernel_rfl) (by kernel_rfl) (by kernel_rfl) (fun _ _ _ h => h) (Or.inl ⟨by kernel_rfl, fun W hSW => by kernel_rfl⟩) hS ?_
    try simp only [Act.put, List.setIfInBounds_toArray, List.set_cons_zero, List.set_cons_succ]
    refine wpAnyH_done (by kernel_rfl) ?_ _
    have HBb := Lib.hid hS
    clear hS
    have hal : Below w1.heap.size w1 (w1.alloc (.cells #[.int .i64 (n : Int), .slice (some ⟨g1, 0, none⟩) m cap1] 85)) := below_alloc _ _
    have hx1 : (w1.alloc (.cells #[.int .i64 (n : Int), .slice (some ⟨g1, 0, none⟩) m cap1] 85)).cell? ⟨w1.heap.size, 0, none⟩ = some (.int .i64 (n : Int)) := (cell_new w1 _ 85 0).trans rfl
    have hx2 : (w1.alloc (.cells #[.int .i64 (n : Int), .slice (some ⟨g1, 0, none⟩) m cap1] 85)).cell? ⟨w1.heap.size, 1, none⟩ = some (.slice (some ⟨g1, 0, none⟩) m cap1) := (cell_new w1 _ 85 1).trans rfl
    have HGa : Hid (Gar (w1.alloc (.cells #[.int .i64 (n : Int), .slice (some ⟨g1, 0, none⟩) m cap1] 85)) w1.heap.size n (some ⟨g1, 0, none⟩) m cap1 fs.tail) := Lib.hid ⟨hx1, hx2, by have := (HFa.out.fens).below hal; rwa [HTL.out] at this⟩
    have HBaA := Lib.hid hal
    clear hx1 hx2 hal
    generalize w1.alloc (.cells #[.int .i64 (n : Int), .slice (some ⟨g1, 0, none⟩) m cap1] 85) = W2 at *
    have hD1l : w.heap.size < W1.heap.size := lt_of_block D1.out
    have hs21 := HBaA.out.size
    have hw1s := hwbw1.out.size
    have hw1s2 : W1.drew.heap.size = W1.heap.size := rfl
    have r2 : W2.heap[w.heap.size]? = some (.cells #[.int .i64 fa, .int .i64 fb] 37 (0, 0)) := (HBaA.out.block _ (by omega)).trans ((hwbw1.out.block _ (by omega)).trans D1.out)
    have e1 : W2.cell? ⟨w.heap.size, 0, none⟩ = some (.int .i64 fa) := (cell_of_row W2 _ 0 _ 37 (0, 0) r2).trans rfl
    have e2 : W2.cell? ⟨w.heap.size, 1, none⟩ = some (.int .i64 fb) := (cell_of_row W2 _ 1 _ 37 (0, 0) r2).trans rfl
    have hs1w : w.heap.size ≤ w1.heap.size := by omega
    generalize w1.heap.size = lp at *
    clear r2 c1 c2 hs1
    by_cases hab : fa = fb
    · have HQ2 := Lib.hid hab
      have q1 : (fa == fb) = true := by simp [hab]
      have q2 : (fb == fa) = true := by simp [hab]
      clear hab
      go_wp2_with fail
      refine (IH.out lp n (some ⟨g1, 0, none⟩) cap1 fs.tail W2 HGa.out HE1.out).mono ?_
      rintro e w3 ⟨q, rfl, ht, hb, hq⟩
      have HB3 := Lib.hid (below_step HBb.out hb)
      have K79 := Lib.hid (f79_any q _ w3 ht)
      clear ht hb hq
      go_wp2_with fail
      refine K79.out.mono ?_
      rintro e w4 ⟨r, rfl, ht, hb, hr⟩
      have HT := Lib.hid ht
      have hsz := HB3.out.size
      have HB4 := Lib.hid (below_step HB3.out hb)
      clear ht hb
      go_wp2
      go_ret
      exact ⟨r, rfl, by rw [HQ.out, if_pos HQ2.out]; exact HT.out, HB4.out, by omega⟩
    · have HQ2 := Lib.hid hab
      have q1 : (fa == fb) = false := by simp [hab]
      have q2 : (fb == fa) = false := by
        have : ¬ fb = fa := fun e => hab e.symm
        simp [this]
      clear hab
      go_upto_region 7 with fail
      refine wp_region_held_drew (S := fun W => Below w.heap.size w W) (by kernel_rfl) (HBb.out.drew) (fun hS => ?_)
      refine wpAnyH_take (i := 0) (oi := { dst := some 46, op := Op.move (Operand.tmp 0), type := 59, pos := "fence.go:118", after := #[], guard := none }) (v := .pointer (some ⟨p, 0, none⟩)) rfl (by kernel_rfl) (by kernel_rfl) (by kernel_rfl) (fun _ _ _ h => h) (Or.inl ⟨by kernel_rfl, fun W hSW => by kernel_rfl⟩) hS ?_
      try simp only [Act.put, List.setIfInBounds_toArray, List.set_cons_zero, List.set_cons_succ]
      refine wpAnyH_take (i := 1) (oi := { dst := some 47, op := Op.nilCheck (Operand.tmp 46), type := 0, pos := "fence.go:118", after := #[{ on := 0, ground := Ground.data }], guard := none }) (v := .pointer (some ⟨p, 0, none⟩)) rfl (by kernel_rfl) (by kernel_rfl) (by kernel_rfl) (fun _ _ _ h => h) (Or.inl ⟨by kernel_rfl, fun W hSW => by kernel_rfl⟩) hS ?_
      try simp only [Act.put, List.setIfInBounds_toArray, List.set_cons_zero, List.set_cons_succ]
      refine wpAnyH_take (i := 2) (oi := { dst := some 48, op := Op.fieldAddr 85 (Operand.tmp 47) 0, type := 0, pos := "fence.go:118", after := #[{ on := 1, ground := Ground.data }], guard := none }) (v := .pointer (some ⟨p, 0, none⟩)) rfl (by kernel_rfl) (by kernel_rfl) (by kernel_rfl) (fun _ _ _ h => h) (Or.inl ⟨by kernel_rfl, fun W hSW => by go_simp⟩) hS ?_
      try simp only [Act.put, List.setIfInBounds_toArray, List.set_cons_zero, List.set_cons_succ]
      refine wpAnyH_take (i := 3) (oi := { dst := some 49, op := Op.load 3 (Operand.tmp 48), type := 3, pos := "fence.go:118", after := #[{ on := 2, ground := Ground.data }], guard := none }) (v := .int .i64 (n : Int)) rfl (by kernel_rfl) (by kernel_rfl) (by kernel_rfl) (fun _ _ _ h => h) (Or.inl ⟨by kernel_rfl, fun W hSW => by have cn := (HG.out.below hSW).cn; have cf := (HG.out.below hSW).cf; clear hSW; go_simp⟩) hS ?_
      try simp only [Act.put, List.setIfInBounds_toArray, List.set_cons_zero, List.set_cons_succ]
      refine wpAnyH_take (i := 4) (oi := { dst := some 50, op := Op.move (Operand.tmp 0), type := 59, pos := "fence.go:118", after := #[], guard := none }) (v := .pointer (some ⟨p, 0, none⟩)) rfl (by kernel_rfl) (by kernel_rfl) (by kernel_rfl) (fun _ _ _ h => h) (Or.inl ⟨by kernel_rfl, fun W hSW => by kernel_rfl⟩) hS ?_
      try simp only [Act.put, List.setIfInBounds_toArray, List.set_cons_zero, List.set_cons_succ]
      refine wpAnyH_take (i := 5) (oi := { dst := some 51, op := Op.nilCheck (Operand.tmp 50), type := 0, pos := "fence.go:118", after := #[{ on := 4, ground := Ground.data }], guard := none }) (v := .pointer (some ⟨p, 0, none⟩)) rfl (by kernel_rfl) (by kernel_rfl) (by kernel_rfl) (fun _ _ _ h => h) (Or.inl ⟨by kernel_rfl, fun W hSW => by kernel_rfl⟩) hS ?_
      try simp only [Act.put, List.setIfInBounds_toArray, List.set_cons_zero, List.set_cons_succ]
      refine wpAnyH_take (i := 6) (oi := { dst := some 52, op := Op.fieldAddr 85 (Operand.tmp 51) 1, type := 0, pos := "fence.go:118", after := #[{ on := 5, ground := Ground.data }], guard := none }) (v := .pointer (some ⟨p, 1, none⟩)) rfl (by kernel_rfl) (by kernel_rfl) (by kernel_rfl) (fun _ _ _ h => h) (Or.inl ⟨by kernel_rfl, fun W hSW => by go_simp⟩) hS ?_
      try simp only [Act.put, List.setIfInBounds_toArray, List.set_cons_zero, List.set_cons_succ]
      refine wpAnyH_take (i := 7) (oi := { dst := some 53, op := Op.load 22 (Operand.tmp 52), type := 22, pos := "fence.go:118", after := #[{ on := 6, ground := Ground.data }], guard := none }) (v := .slice (some ⟨b, off, none⟩) (m + 1) c) rfl (by kernel_rfl) (by kernel_rfl) (by kernel_rfl) (fun _ _ _ h => h) (Or.inl ⟨by kernel_rfl, fun W hSW => by have cn := (HG.out.below hSW).cn; have cf := (HG.out.below hSW).cf; clear hSW; go_simp⟩) hS ?_
      try simp only [Act.put, List.setIfInBounds_toArray, List.set_cons_zero, List.set_cons_succ]
      refine wpAnyH_ready (rs := [8]) (by kernel_rfl) (by simp) ?_
      refine AllReadyH.cons (o := { dst := some 54, op := Op.call { callee := Callee.value (Operand.func 80), args := #[Operand.tmp 53, Operand.const (Value.int IntKind.i64 0)], argTypes := #[22, 3] }, type := 22, pos := "fence.go:118", after := #[{ on := 7, ground := Ground.data }], guard := none }) rfl (fun K hK => ?_) AllReadyH.nil
      go_simp
      refine Calls.mono (K80.out _ hS) ?_
      rintro e w3 ⟨g2, cap2, rfl, hF, hb, hs2⟩
      have HBc := Lib.hid (below_step hS hb)
      have HFb := Lib.hid hF
      have hwbw3 := Lib.hid hb
      clear hF hb
      refine hK.out _ _ HBc.out (fun hS => ?_)
      clear hK K
      try simp only [Act.put, List.setIfInBounds_toArray, List.set_cons_zero, List.set_cons_succ]
      refine wpAnyH_take (i := 9) (oi := { dst := some 55, op := Op.build 85 #[(0, Operand.tmp 49), (1, Operand.tmp 54)], type := 85, pos := "fence.go:118", after := #[{ on := 3, ground := Ground.data }, { on := 8, ground := Ground.data }], guard := none }) (v := .agg #[.int .i64 (n : Int), .slice (some ⟨g2, 0, none⟩) m cap2]) rfl (by kernel_rfl) (by kernel_rfl) (by kernel_rfl) (fun _ _ _ h => h) (Or.inl ⟨by kernel_rfl, fun W hSW => by go_simp⟩) hS ?_
      try simp only [Act.put, List.setIfInBounds_toArray, List.set_cons_zero, List.set_cons_succ]
      refine wpAnyH_ready (rs := [10]) (by kernel_rfl) (by simp) ?_
      refine AllReadyH.cons (o := { dst := some 56, op := Op.box 85 (Operand.tmp 55), type := 59, pos := "fence.go:118", after := #[{ on := 9, ground := Ground.data }], guard := none }) rfl (fun K hK => ?_) AllReadyH.nil
      go_simp
      refine hK.out _ _ (hS.alloc hS.size _) (fun hS => ?_)
      clear hK K
      try simp only [Act.put, List.setIfInBounds_toArray, List.set_cons_zero, List.set_cons_succ]
      refine wpAnyH_take (i := 11) (oi := { dst := some 5, op := Op.assign (Operand.tmp 56), type := 59, pos := "fence.go:118", after := #[{ on := 10, ground := Ground.data }, { on := 8, ground := Ground.chain }, { on := 0, ground := Ground.phase }, { on := 1, ground := Ground.phase }, { on := 2, ground := Ground.phase }, { on := 3, ground := Ground.phase }, { on := 4, ground := Ground.phase }, { on := 5, ground := Ground.phase }, { on := 6, ground := Ground.phase }, { on := 7, ground := Ground.phase }, { on := 8, ground := Ground.phase }, { on := 9, ground := Ground.phase }, { on := 10, ground := Ground.phase }], guard := none }) (v := .pointer (some ⟨w3.heap.size, 0, none⟩)) rfl (by kernel_rfl) (by kernel_rfl) (by kernel_rfl) (fun _ _ _ h => h) (Or.inl ⟨by kernel_rfl, fun W hSW => by kernel_rfl⟩) hS ?_
      try simp only [Act.put, List.setIfInBounds_toArray, List.set_cons_zero, List.set_cons_succ]
      refine wpAnyH_done (by kernel_rfl) ?_ _
      have HBd := Lib.hid hS
      clear hS
      have hal : Below w3.heap.size w3 (w3.alloc (.cells #[.int .i64 (n : Int), .slice (some ⟨g2, 0, none⟩) m cap2] 85)) := below_alloc _ _
      have hx1 : (w3.alloc (.cells #[.int .i64 (n : Int), .slice (some ⟨g2, 0, none⟩) m cap2] 85)).cell? ⟨w3.heap.size, 0, none⟩ = some (.int .i64 (n : Int)) := (cell_new w3 _ 85 0).trans rfl
      have hx2 : (w3.alloc (.cells #[.int .i64 (n : Int), .slice (some ⟨g2, 0, none⟩) m cap2] 85)).cell? ⟨w3.heap.size, 1, none⟩ = some (.slice (some ⟨g2, 0, none⟩) m cap2) := (cell_new w3 _ 85 1).trans rfl
      have HGb : Hid (Gar (w3.alloc (.cells #[.int .i64 (n : Int), .slice (some ⟨g2, 0, none⟩) m cap2] 85)) w3.heap.size n (some ⟨g2, 0, none⟩) m cap2 (clL fs)) := Lib.hid ⟨hx1, hx2, by have := (HFb.out.fens).below hal; rwa [HCL.out] at this⟩
      have HBcA := Lib.hid hal
      clear hx1 hx2 hal
      generalize w3.alloc (.cells #[.int .i64 (n : Int), .slice (some ⟨g2, 0, none⟩) m cap2] 85) = W4 at *
      have hs43 := HBcA.out.size
      have hw3s := hwbw3.out.size
      have hw3s2 : W2.drew.heap.size = W2.heap.size := rfl
      have hb24 : Below W2.heap.size W2.drew W4 := hwbw3.out.trans (HBcA.out.mono (by omega))
      have HGa4 : Hid (Gar W4 lp n (some ⟨g1, 0, none⟩) m cap1 fs.tail) := Lib.hid (Gar.below (w := W2.drew) ⟨HGa.out.cn, HGa.out.cf, HGa.out.fens⟩ hb24)
      clear hb24
      have HG4 := Lib.hid (HG.out.below HBd.out)
      have cf4 := HG4.out.cf
      have K34 := Lib.hid (f34_any p n (some ⟨b, off, none⟩) (m + 1) c fs 0 W4 HG4.out HE.out (by omega))
      generalize w3.heap.size = lq at *
      cases hbr : brB n fs 0
      · rw [hbr] at K34
        have HBR := Lib.hid hbr
        clear hbr
        go_wp2_with fail
        refine K34.out.mono ?_
        rintro e w5 ⟨rfl, hb⟩
        have HB5 := Lib.hid (below_step HBd.out hb)
        have HGa5 := Lib.hid (HGa4.out.below hb)
        have HGb5 := Lib.hid (HGb.out.below hb)
        have cf5 := (HG4.out.below hb).cf
        have hm11 : (m : Int) + 1 < 11 := by omega
        clear hb
        go_wp2_with fail
        refine (IH.out lp n (some ⟨g1, 0, none⟩) cap1 fs.tail w5 HGa5.out HE1.out).mono ?_
        rintro e w6 ⟨q, rfl, ht, hb, hq⟩
        have HB6 := Lib.hid (below_step HB5.out hb)
        have HT6 := Lib.hid ht
        have HGb6 := Lib.hid (HGb5.out.below hb)
        clear ht hb hq
        go_wp2_with fail
        refine (IH.out lq n (some ⟨g2, 0, none⟩) cap2 (clL fs) w6 HGb6.out HE2.out).mono ?_
        rintro e w7 ⟨r, rfl, ht, hb, hr⟩
        have HB7 := Lib.hid (below_step HB6.out hb)
        have HT7 := Lib.hid (HT6.out.below hb)
        have hP : (2 : Int) ^ m ≤ 1024 := by
          have : m ≤ 9 := by omega
          have h2 : ((2 ^ m : Nat) : Int) ≤ ((2 ^ 9 : Nat) : Int) := Int.ofNat_le.2 (Nat.pow_le_pow_right (by omega) this)
          rw [Int.natCast_pow] at h2
          have h3 : ((2 ^ 9 : Nat) : Int) = 512 := by decide
          rw [h3] at h2
          have h4 : ((2 : Nat) : Int) = 2 := rfl
          rw [h4] at h2
          omega
        have K82 := Lib.hid (f82_any q r _ _ w7 HT7.out ht (fun j i => by have := polyF_in n m fs.tail j i; omega) (fun j i => by have := polyF_in n m (clL fs) j i; omega))
        clear ht hb hr hP
        go_wp2_with fail
        refine K82.out.mono ?_
        rintro e w8 ⟨t, rfl, ht, hb, ht2⟩
        have HT := Lib.hid ht
        have hsz := HB7.out.size
        have HB8 := Lib.hid (below_step HB7.out hb)
        clear ht hb
        go_wp2
        go_ret
        exact ⟨t, rfl, by rw [HQ.out, if_neg HQ2.out, if_neg (by rw [HBR.out]; decide)]; exact HT.out, HB8.out, by omega⟩
      · rw [hbr] at K34
        have HBR := Lib.hid hbr
        clear hbr
        go_wp2_with fail
        refine K34.out.mono ?_
        rintro e w5 ⟨rfl, hb⟩
        have HB5 := Lib.hid (below_step HBd.out hb)
        have HGb5 := Lib.hid (HGb.out.below hb)
        clear hb
        go_wp2_with fail
        refine (IH.out lq n (some ⟨g2, 0, none⟩) cap2 (clL fs) w5 HGb5.out HE2.out).mono ?_
        rintro e w6 ⟨q, rfl, ht, hb, hq⟩
        have HB6 := Lib.hid (below_step HB5.out hb)
        have K81 := Lib.hid (f81_any q _ w6 ht)
        clear ht hb hq
        go_wp2_with fail
        refine K81.out.mono ?_
        rintro e w7 ⟨t, rfl, ht, hb, ht2⟩
        have HT := Lib.hid ht
        have hsz := HB6.out.size
        have HB7 := Lib.hid (below_step HB6.out hb)
        clear ht hb
        go_wp2
        go_ret
        exact ⟨t, rfl, by rw [HQ.out, if_neg HQ2.out, if_pos HBR.out]; exact HT.out, HB7.out, by omega⟩
end Go.Proofs.YtmepndnckcpgjaaGreat

namespace Go.Proofs.YtmepndnckcpgjaaGreat
open Go.RowKit
set_option maxRecDepth 100000 in
set_option maxHeartbeats 8000000 in
/-- fence.Colourings of a triangle with 3 colours -/
theorem f40_tri (A : Option Addr) (c : Nat) (w : World) (hs : Fens w A 3 triL) :
    Calls Tryz.prog 40 #[.int .i64 3, .slice A 3 c, .int .i64 3] w fun e w' => e = .returned (.tuple #[.int .i64 6, .int .i64 0]) ∧ Below w.heap.size w w' := by
  have K31 := Lib.hid (f31_yes 3 A 3 c triL w hs tri_gar)
  clear hs
  go_enter Tryz.func40, Tryz.ntmps40
  go_wp2_with fail
  refine K31.out.mono ?_
  rintro e w1 ⟨p, rfl, hg, hb, hp⟩
  have HB1 := Lib.hid hb
  have HG1 := Lib.hid hg
  have K33 : Hid (Calls Tryz.prog 33 #[.pointer (some ⟨p, 0, none⟩)] w1 fun e w' => e = .returned (.int .i64 7) ∧ w1 = w') := Lib.hid (f33g_any p 3 A 3 c triL w1 hg (by decide))
  have K32 : Hid (Calls Tryz.prog 32 #[.pointer (some ⟨p, 0, none⟩), .int .i64 7] w1 fun e w' => e = .returned (.int .i64 1) ∧ Below w1.heap.size w1 w') := Lib.hid (by
    have := f32_any p 3 A 3 c triL (allM 3) w1 hg tri_gar (by decide)
    rw [tri_groups] at this
    exact this)
  clear hb hg hp
  go_wp2_with fail
  refine K33.out.mono ?_
  rintro e w' ⟨rfl, rfl⟩
  go_wp2_with fail
  refine K32.out.mono ?_
  rintro e w2 ⟨rfl, hb⟩
  have HG2 := Lib.hid (HG1.out.below hb)
  have HB2 := Lib.hid (below_step HB1.out hb)
  clear hb
  go_wp2_with fail
  refine (f54_any 3 1 w2 (by decide) (by decide)).mono ?_
  rintro e w' ⟨rfl, rfl⟩
  go_wp2_with fail
  refine (f54_any (-1) 2 w2 (by decide) (by decide)).mono ?_
  rintro e w' ⟨rfl, rfl⟩
  go_wp2_with fail
  refine (f55_any 3 (by decide) p 3 A c triL w2 HG2.out tri_gar).mono ?_
  rintro e w3 ⟨q, rfl, ht, hb, hq⟩
  have HB3 := Lib.hid (below_step HB2.out hb)
  have K56 : Hid (Calls Tryz.prog 56 #[.pointer (some ⟨q, 0, none⟩), .int .i64 (-2), .int .i64 0] w3 fun e w' => e = .returned (.int .i64 2) ∧ w3 = w') := Lib.hid (by
    have := f56_any q _ (-2) 0 w3 ht (tri_ok.congr tri_at)
    rw [outF_congr tri_at, tri_val] at this
    exact this)
  clear ht hb hq
  go_wp2_with fail
  refine K56.out.mono ?_
  rintro e w' ⟨rfl, rfl⟩
  go_wp2
  go_ret2
  exact ⟨rfl, HB3.out⟩
end Go.Proofs.YtmepndnckcpgjaaGreat
