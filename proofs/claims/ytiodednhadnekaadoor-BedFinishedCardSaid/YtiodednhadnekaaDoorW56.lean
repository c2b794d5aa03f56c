/- Walks: Mates of the program, with a map of the pairs that were seen. -/
import Derived.Test.YtiodednhadnekaaDoorPlain10
import Derived.DeepKeys4
import Derived.Maps.OwnOps
import Derived.Maps.Views
namespace Go.Proofs.YtiodednhadnekaaDoor
open Go.RowKit Go.Deep
attribute [local go_sem ↓] Go.wp_at_zero Go.wp_at_succ

theorem law98 : Go.Maps.Keyed Tryd.prog 98 := Go.Maps.Keyed.of_law (deep_law_laid (P := Tryd.prog) (by kernel_rfl) (m := 2) (by omega) (of_decide_eq_true (by kernel_rfl)) (by kernel_rfl) (by rw [Tryd.underlying98]))
theorem cells98 : Tryd.prog.cellsOf 98 = 2 := by kernel_rfl
theorem cells3 : Tryd.prog.cellsOf 3 = 1 := by kernel_rfl
theorem keyType98 : Tryd.prog.keyType 98 = true := by kernel_rfl
theorem size_types : ∃ N, Tryd.prog.types.size + 1 = N + 2 := ⟨Tryd.prog.types.size - 1, by have : 0 < Tryd.prog.types.size := of_decide_eq_true (by kernel_rfl); omega⟩
theorem lits98 {x y : Int} (hx : (Lit.int .i64 x).wf = true) (hy : (Lit.int .i64 y).wf = true) (N : Nat) : Tryd.prog.keyLits (N + 2) 98 [.int .i64 x, .int .i64 y] = some [.int .i64 x, .int .i64 y] := by
  have h3 : ∀ z : Int, (Lit.int .i64 z).wf = true → Tryd.prog.keyLits (N + 1) 3 [.int .i64 z] = some [.int .i64 z] := fun z hz => by
    unfold Program.keyLits
    rw [Tryd.underlying3]
    simp only
    rw [if_pos ⟨trivial, hz⟩]
  unfold Program.keyLits
  rw [Tryd.underlying98]
  simp only [List.length_cons, List.length_nil, cells98, cells3]
  rw [if_pos trivial, show List.range 2 = [0, 1] from rfl]
  simp [h3 x hx, h3 y hy]
theorem key98 {x y : Int} (hx : (Lit.int .i64 x).wf = true) (hy : (Lit.int .i64 y).wf = true) : keyOf Tryd.prog 98 (.agg #[.int .i64 x, .int .i64 y]) = some (.string (keyBytes [.int .i64 x, .int .i64 y])) := by
  obtain ⟨N, hN⟩ := size_types
  have hf : (Value.agg #[.int .i64 x, .int .i64 y]).formed Tryd.prog 98 = true := by simp [Value.formed, Tryd.underlying98, cells98]
  unfold keyOf
  rw [Tryd.underlying98, hN]
  simp only [keyType98, hf, Bool.and_self, if_true]
  rw [show (Value.agg #[.int .i64 x, .int .i64 y]).cells.toList = [.int .i64 x, .int .i64 y] from rfl, lits98 hx hy N]
  rfl
theorem zero4 (w : World) : (zeroValue 4).run Tryd.prog w = .ok (.bool false) w := by kernel_rfl
theorem wf_small {x : Int} (h0 : 0 ≤ x) (h1 : x < 100) : (Lit.int .i64 x).wf = true := by
  have e1 : IntKind.i64.min = -9223372036854775808 := by decide
  have e2 : IntKind.i64.max = 9223372036854775807 := by decide
  show (decide (IntKind.i64.min ≤ x) && decide (x ≤ IntKind.i64.max)) = true
  rw [e1, e2, Bool.and_eq_true, decide_eq_true_eq, decide_eq_true_eq]
  omega
def pairV (p : Int × Int) : Value := .agg #[.int .i64 p.1, .int .i64 p.2]
def pairK (p : Int × Int) : Lit := .string (keyBytes [.int .i64 p.1, .int .i64 p.2])
def Tiny (p : Int × Int) : Prop := 0 ≤ p.1 ∧ p.1 < 100 ∧ 0 ≤ p.2 ∧ p.2 < 100
theorem Tiny.key {p : Int × Int} (h : Tiny p) : keyOf Tryd.prog 98 (pairV p) = some (pairK p) := key98 (wf_small h.1 h.2.1) (wf_small h.2.2.1 h.2.2.2)
theorem pairK_inj {p q : Int × Int} (hp : Tiny p) (hq : Tiny q) (e : pairK p = pairK q) : p = q := by
  have h := law98.inj hp.key (by rw [e]; exact hq.key)
  unfold pairV at h
  simp at h
  exact Prod.ext h.1 h.2
/-- What the map holds. -/
def seenD (f : Nat → Int × Int) : Nat → DataW Nat
  | 0 => .map []
  | p + 1 => (seenD f p).put (pairK (f p)) (.lit (.bool true))
theorem seenD_isMap (f : Nat → Int × Int) : ∀ p, Go.Maps.IsMap (seenD f p)
  | 0 => Go.Maps.isMap_empty
  | p + 1 => (seenD_isMap f p).put _ _
theorem seenD_at (f : Nat → Int × Int) (hf : ∀ i, Tiny (f i)) (q : Int × Int) (hq : Tiny q) : ∀ p, (seenD f p).atKey (pairK q) (.lit (.bool false)) = .lit (.bool ((List.range p).any fun i => f i == q))
  | 0 => rfl
  | p + 1 => by
    show ((seenD f p).put (pairK (f p)) (.lit (.bool true))).atKey (pairK q) _ = _
    by_cases e : f p = q
    · rw [e, Go.Maps.atKey_put_same (seenD_isMap f p) (law98.key hq.key)]
      rw [show ((List.range (p + 1)).any fun i => f i == q) = true from List.any_eq_true.2 ⟨p, List.mem_range.2 (by omega), by simp [e]⟩]
    · rw [Go.Maps.atKey_put_other (fun h => e (pairK_inj (hf p) hq h.symm)), seenD_at f hf q hq p, List.range_succ, List.any_append]
      simp [e]
theorem elem_bool_inv {P : Program} {e : TypeId} (he : P.underlying e = some .bool) {v : Value} {z : DataW Nat × List MemPlace} (h : plainElem P e v = some z) : ∃ x, v = .bool x ∧ z = (.lit (.bool x), []) := by
  unfold plainElem at h
  split at h
  · injection h with h
    exact ⟨_, rfl, h.symm⟩
  · rename_i h2; rw [he] at h2; cases h2
  · rename_i h2; rw [he] at h2; cases h2
  · cases h
/-- The map m holds the first p pairs. -/
def SeenM (w : World) (g p : Nat) (f : Nat → Int × Int) : Prop := w.ownsMap Tryd.prog 98 (plainElem Tryd.prog 4) g p (seenD f p)
theorem SeenM.look {w : World} {g p : Nat} {f : Nat → Int × Int} (h : SeenM w g p f) (hf : ∀ i, Tiny (f i)) (q : Int × Int) (hq : Tiny q) : (Instr.lookup 96 (.map (some g)) (pairV q) false).run Tryd.prog w = .ok (.bool ((List.range p).any fun i => f i == q)) w := by
  obtain ⟨v, ps, h1, h2⟩ := World.ownsMap.lookup h law98 Tryd.underlying96 (zero4 w) (plainElem_bool Tryd.underlying4 false) hq.key
  rw [seenD_at f hf q hq p] at h2
  obtain ⟨x, rfl, h3⟩ := elem_bool_inv Tryd.underlying4 h2
  rw [h1, Lit.bool.inj (DataW.lit.inj (Prod.mk.inj h3).1)]
theorem SeenM.kept {w w' : World} {g p : Nat} {f : Nat → Int × Int} (h : SeenM w g p f) (hb : Below w.heap.size w w') : SeenM w' g p f := World.ownsMap.kept h (grown_below hb none) (by simp)
theorem SeenM.upd {w : World} {g p : Nat} {f : Nat → Int × Int} (h : SeenM w g p f) (hp : p ≤ 1000) (hq : Tiny (f p)) : ∃ w', (Instr.mapUpdate 96 (.map (some g)) (pairV (f p)) (.bool true)).run Tryd.prog w = .ok () w' ∧ SeenM w' g (p + 1) f ∧ w.grownBy w' (some g) :=
  World.ownsMap.update h law98 Tryd.underlying96 (by unfold maxLen; omega) hq.key (plainElem_bool Tryd.underlying4 true)
/-! ### what Mates judges -/
def pairF (n : Nat) (a b : List (List Int)) (i : Nat) : Int × Int := if i < n * n then (cl n a i, cl n b i) else (0, 0)
theorem pairF_at {n : Nat} {a b : List (List Int)} {i : Nat} (h : i < n * n) : pairF n a b i = (cl n a i, cl n b i) := if_pos h
def hitP (n : Nat) (a b : List (List Int)) (p : Nat) : Bool := (List.range p).any fun i => pairF n a b i == pairF n a b p
/-- Is no pair there twice? -/
def orthB (n : Nat) (a b : List (List Int)) : Bool := (List.range (n * n)).all fun p => !hitP n a b p
theorem orthB_hit {n : Nat} {a b : List (List Int)} {p : Nat} (hp : p < n * n) (h : hitP n a b p = true) : orthB n a b = false := by
  unfold orthB
  rw [List.all_eq_false]
  exact ⟨p, List.mem_range.2 hp, by simp [h]⟩
theorem orthB_miss {n : Nat} {a b : List (List Int)} (h : ∀ p, p < n * n → hitP n a b p = false) : orthB n a b = true := by
  unfold orthB
  rw [List.all_eq_true]
  intro p hp
  rw [h p (List.mem_range.1 hp)]; rfl
theorem orthB_iff {n : Nat} {a b : List (List Int)} : orthB n a b = true ↔ OrthP n a b := by
  constructor
  · intro h r c s d hr hc hs hd h1 h2
    have key : ∀ i j, i < j → j < n * n → pairF n a b i ≠ pairF n a b j := fun i j hij hj e => by
      have := orthB_hit hj (show hitP n a b j = true from List.any_eq_true.2 ⟨i, List.mem_range.2 hij, by simp [e]⟩)
      rw [h] at this; cases this
    have e : pairF n a b (r * n + c) = pairF n a b (s * n + d) := by
      rw [pairF_at (idx_lt hr hc), pairF_at (idx_lt hs hd), cl_at a hc, cl_at b hc, cl_at a hd, cl_at b hd, h1, h2]
    have hi : r * n + c = s * n + d := by
      rcases Nat.lt_trichotomy (r * n + c) (s * n + d) with h3 | h3 | h3
      · exact absurd e (key _ _ h3 (idx_lt hs hd))
      · exact h3
      · exact absurd e.symm (key _ _ h3 (idx_lt hr hc))
    have e1 := congrArg (· / n) hi
    have e2 := congrArg (· % n) hi
    have hn : 0 < n := by omega
    simp only [Nat.add_comm _ c, Nat.add_comm _ d, Nat.add_mul_div_right _ _ hn, Nat.div_eq_of_lt hc, Nat.div_eq_of_lt hd, Nat.add_mul_mod_self_right, Nat.mod_eq_of_lt hc, Nat.mod_eq_of_lt hd] at e1 e2
    exact ⟨by omega, e2⟩
  · intro h
    refine orthB_miss fun p hp => ?_
    unfold hitP
    rw [List.any_eq_false]
    intro i hi
    have hi := List.mem_range.1 hi
    obtain ⟨i1, i2, i3⟩ := idx_split (show i < n * n by omega)
    obtain ⟨p1, p2, p3⟩ := idx_split hp
    simp only [beq_iff_eq]
    intro e
    rw [pairF_at (show i < n * n by omega), pairF_at hp] at e
    injection e with e1 e2
    have := h _ _ _ _ i1 i2 p1 p2 e1 e2
    rw [this.1, this.2] at i3
    omega
def matesE (a b : List (List Int)) : Int := if fullB a = true ∧ fullB b = true ∧ a.length = b.length then 0 else 2
def matesB (a b : List (List Int)) : Bool := if fullB a = true ∧ fullB b = true ∧ a.length = b.length then orthB a.length a b else false
set_option maxRecDepth 100000 in
set_option maxHeartbeats 8000000 in
/-- bed.mates -/
theorem f77_any (A B : Option Addr) (n c d : Nat) (a b : List (List Int)) (w : World) (ha : Beds w A n c a) (hb : Beds w B n d b) (fa : IsFull n a) (fb : IsFull n b) (hn : 0 < n) (hn7 : n ≤ 7) :
    Calls Tryd.prog 77 #[.slice A n c, .slice B n d] w fun e w' => e = .returned (.bool (orthB n a b)) ∧ Below w.heap.size w w' := by
  have HA := Lib.hid ha
  have HB := Lib.hid hb
  have HT : Hid (∀ i, Tiny (pairF n a b i)) := Lib.hid fun i => by
    by_cases hi : i < n * n
    · obtain ⟨i1, i2, _⟩ := idx_split hi
      have h1 := fa.lo _ _ i1 i2
      have h2 := fb.lo _ _ i1 i2
      rw [pairF_at hi]
      unfold Tiny cl
      simp only
      omega
    · unfold pairF Tiny
      rw [if_neg hi]
      simp
  have HRA : Hid (∀ i, i < n → (a.getD i []).length = n) := fa.shape.2
  have HRB : Hid (∀ i, i < n → (b.getD i []).length = n) := fb.shape.2
  have hmm := @run_makeMap Tryd.prog
  obtain ⟨ga, oa, hA0, _⟩ := ha.at_ hn
  obtain ⟨gb, ob, hB0, _⟩ := hb.at_ hn
  subst hA0 hB0
  clear ha hb fa fb
  go_enter Tryd.func77, Tryd.ntmps77
  have S0 : Hid (SeenM (w.alloc (.map #[] 0)) w.heap.size 0 (pairF n a b)) := World.ownsMap_made w Tryd.prog 98 _
  have B0 : Hid (Below w.heap.size w (w.alloc (.map #[] 0))) := below_alloc w _
  go_wp2
  go_loopw [14] (fun ri wr => ∃ r : Nat, r ≤ n ∧ ri = .int .i64 (r : Int) ∧ SeenM wr w.heap.size (r * n) (pairF n a b) ∧ Below w.heap.size w wr ∧ Hid (∀ p, p < r * n → hitP n a b p = false)) (fun ri _ => n - (intOf ri).toNat)
  case atStart => exact ⟨0, by omega, rfl, by rw [Nat.zero_mul]; exact S0.out, B0.out, fun p hp => by omega⟩
  case round => as_aux_lemma =>
    obtain ⟨r, hr, rfl, hS, hbel, hno⟩ := hrel
    by_cases hrn : r < n
    · obtain ⟨g1, o1, e1, A1, d1, hc1, _, _, hI1⟩ := (HA.out.below hbel).at_ hrn
      injection e1 with e1
      injection e1 with e1 e2
      subst e1 e2
      rw [HRA.out r hrn] at hc1 hI1
      have HII : Hid (∀ W, Below w.heap.size w W → Ints W A1 n (a.getD r [])) := Lib.hid fun W h => by
        obtain ⟨g9, o9, e9, B9, d9, hc9, _, _, hI9⟩ := HA.out.at_ hrn
        injection e9 with e9
        injection e9 with e1 e2
        subst e1 e2
        rw [HRA.out r hrn] at hc9 hI9
        have h1 := (hbel.cell (lt_of_cell hc9)).trans hc9
        rw [hc1] at h1
        injection h1 with h1
        injection h1 with h1
        subst h1
        exact hI9.below h
      obtain ⟨b1, p1, rfl, _⟩ := hI1.at_ hn
      have HS := Lib.hid hS
      have HBL := Lib.hid hbel
      have HNO := Lib.hid hno.out
      have r0 : (0 : Int) ≤ (r : Int) := by omega
      have rn : (r : Int) < (n : Int) := by omega
      clear hS hbel hno hI1
      go_wp2
      go_loopw [21] (fun ci wr => ∃ k : Nat, k ≤ n ∧ ci = .int .i64 (k : Int) ∧ SeenM wr w.heap.size (r * n + k) (pairF n a b) ∧ Below w.heap.size w wr ∧ Hid (∀ p, p < r * n + k → hitP n a b p = false)) (fun ci _ => n - (intOf ci).toNat)
      case atStart => exact ⟨0, by omega, rfl, HS.out, HBL.out, HNO.out⟩
      case round => as_aux_lemma =>
        obtain ⟨k, hk, rfl, hS, hbel, hno⟩ := hrel
        by_cases hkn : k < n
        · obtain ⟨b2, p2, e2, hc2⟩ := (HII.out _ hbel).at_ hkn
          injection e2 with e2
          injection e2 with e1 e2
          subst e1 e2
          obtain ⟨g3, o3, e3, B3, d3, hc3, _, _, hI3⟩ := (HB.out.below hbel).at_ hrn
          injection e3 with e3
          injection e3 with e1 e2
          subst e1 e2
          rw [HRB.out r hrn] at hc3 hI3
          obtain ⟨b3, p3, rfl, hc4⟩ := hI3.at_ hkn
          have hpn := idx_lt hrn hkn
          have hF : pairF n a b (r * n + k) = ((a.getD r []).getD k 0, (b.getD r []).getD k 0) := by rw [pairF_at hpn, cl_at a hkn, cl_at b hkn]; rfl
          have hp49 : r * n + k < 49 := by have := Nat.mul_le_mul hn7 hn7; omega
          obtain ⟨p, hp⟩ : ∃ p, p = r * n + k := ⟨_, rfl⟩
          rw [← hp] at hF hp49 hS hno hpn
          have HTP := HT.out p
          have hlk := fun W (h : Below wr.heap.size wr W) => (hS.kept h).look HT.out (pairF n a b p) HTP
          have e0 : ((List.range p).any fun i => pairF n a b i == pairF n a b p) = hitP n a b p := rfl
          rw [e0] at hlk
          unfold pairV at hlk
          rw [hF] at hlk
          generalize (a.getD r []).getD k 0 = x at *
          generalize (b.getD r []).getD k 0 = y at *
          have hl1 := hlk (wr.alloc (.cells #[.int .i64 x, .int .i64 y] 98)) (below_alloc wr _)
          have hup := (hS.kept (below_alloc wr (.cells #[.int .i64 x, .int .i64 y] 98))).upd (by omega) HTP
          rw [hF] at hup
          obtain ⟨w5, hu1, hS5, hg5⟩ := hup
          unfold pairV at hu1
          have HBW : Hid (Below w.heap.size w (wr.alloc (.cells #[.int .i64 x, .int .i64 y] 98))) := Lib.hid (hbel.alloc hbel.size _)
          have HS5 := Lib.hid hS5
          have HB5 : Hid (Below w.heap.size w w5) := Lib.hid ((hbel.alloc hbel.size (.cells #[.int .i64 x, .int .i64 y] 98)).grown hg5 (Nat.le_trans hbel.size (below_alloc wr _).size) (fun k e => by injection e with e; omega))
          have HNO2 := Lib.hid hno.out
          have HP := Lib.hid hp
          clear hlk hI3 hS5 hg5 hS hbel hno hp hF HTP e0
          cases hh : hitP n a b p
          · rw [hh] at hl1
            have HN3 : Hid (∀ q, q < p + 1 → hitP n a b q = false) := Lib.hid fun q hq => by
              by_cases e : q = p
              · rw [e]; exact hh
              · exact HNO2.out q (by omega)
            clear hh
            go_wp2
            go_roundw
            case rel => exact ⟨k + 1, by omega, by go_num, by rw [← Nat.add_assoc, ← HP.out]; exact HS5.out, HB5.out, by rw [← Nat.add_assoc, ← HP.out]; exact HN3.out⟩
            case measure => simp [intOf]; omega
          · rw [hh] at hl1
            have HO : Hid (orthB n a b = false) := Lib.hid (orthB_hit hpn hh)
            clear hh
            go_wp2
            go_ret
            exact ⟨by rw [HO.out]; rfl, HBW.out⟩
        · obtain rfl : k = n := by omega
          have HS2 : Hid (SeenM wr w.heap.size ((r + 1) * k) (pairF k a b)) := Lib.hid (by rw [Nat.succ_mul]; exact hS)
          have HN2 : Hid (∀ p, p < (r + 1) * k → hitP k a b p = false) := Lib.hid (by rw [Nat.succ_mul]; exact hno.out)
          have HB2 := Lib.hid hbel
          clear hS hno hbel
          go_wp2
          go_roundw
          case rel => exact ⟨r + 1, by omega, by go_num, HS2.out, HB2.out, HN2.out⟩
          case measure => simp [intOf]; omega
    · obtain rfl : r = n := by omega
      have HO : Hid (orthB r a b = true) := Lib.hid (orthB_miss hno.out)
      have HB2 := Lib.hid hbel
      clear hS hno hbel
      go_wp2
      go_ret
      exact ⟨by rw [HO.out]; rfl, HB2.out⟩
set_option maxRecDepth 100000 in
set_option maxHeartbeats 8000000 in
/-- bed.Mates -/
theorem f32_any (A B : Option Addr) (n m c d : Nat) (a b : List (List Int)) (w : World) (ha : Beds w A n c a) (hb : Beds w B m d b) :
    Calls Tryd.prog 32 #[.slice A n c, .slice B m d] w fun e w' => e = .returned (.tuple #[.bool (matesB a b), .int .i64 (matesE a b)]) ∧ Below w.heap.size w w' := by
  have K1 := Lib.hid (f60_any A n c a w ha)
  have hla := ha.len
  have hlb := hb.len
  cases h1 : fullB a
  · rw [h1] at K1
    have HE : Hid (matesB a b = false ∧ matesE a b = 2) := Lib.hid (by unfold matesB matesE; rw [h1]; simp)
    clear ha hb h1
    go_enter Tryd.func32, Tryd.ntmps32
    go_wp2_with fail
    refine K1.out.mono ?_
    rintro e w1 ⟨rfl, hb1⟩
    have HB1 := Lib.hid hb1
    clear hb1
    go_wp2
    go_ret2
    exact ⟨by rw [HE.out.1, HE.out.2]; rfl, HB1.out⟩
  have K2 : Hid (∀ W, Below w.heap.size w W → Calls Tryd.prog 60 #[.slice B m d] W fun e w' => e = .returned (.bool (fullB b)) ∧ Below W.heap.size W w') := Lib.hid fun W h => f60_any B m d b W (hb.below h)
  rw [h1] at K1
  cases h2 : fullB b
  · rw [h2] at K2
    have HE : Hid (matesB a b = false ∧ matesE a b = 2) := Lib.hid (by unfold matesB matesE; rw [h1, h2]; simp)
    clear ha hb h1 h2
    go_enter Tryd.func32, Tryd.ntmps32
    go_wp2_with fail
    refine K1.out.mono ?_
    rintro e w1 ⟨rfl, hb1⟩
    have HB1 := Lib.hid hb1
    clear hb1
    go_wp2_with fail
    refine (K2.out w1 HB1.out).mono ?_
    rintro e w2 ⟨rfl, hb2⟩
    have HB2 := Lib.hid (below_step HB1.out hb2)
    clear hb2
    go_wp2
    go_ret2
    exact ⟨by rw [HE.out.1, HE.out.2]; rfl, HB2.out⟩
  rw [h2] at K2
  by_cases h3 : n = m
  · subst h3
    obtain ⟨n1, n7, fa⟩ := fullB_iff.1 h1
    obtain ⟨_, _, fb⟩ := fullB_iff.1 h2
    rw [hla] at n1 n7 fa
    rw [hlb] at fb
    have HE : Hid (matesB a b = orthB n a b ∧ matesE a b = 0) := Lib.hid (by unfold matesB matesE; rw [h1, h2, hla, hlb]; simp)
    have K3 : Hid (∀ W, Below w.heap.size w W → Calls Tryd.prog 77 #[.slice A n c, .slice B n d] W fun e w' => e = .returned (.bool (orthB n a b)) ∧ Below W.heap.size W w') := Lib.hid fun W h => f77_any A B n c d a b W (ha.below h) (hb.below h) fa fb n1 n7
    clear ha hb h1 h2 fa fb
    go_enter Tryd.func32, Tryd.ntmps32
    go_wp2_with fail
    refine K1.out.mono ?_
    rintro e w1 ⟨rfl, hb1⟩
    have HB1 := Lib.hid hb1
    clear hb1
    go_wp2_with fail
    refine (K2.out w1 HB1.out).mono ?_
    rintro e w2 ⟨rfl, hb2⟩
    have HB2 := Lib.hid (below_step HB1.out hb2)
    clear hb2
    go_wp2_with fail
    refine (K3.out w2 HB2.out).mono ?_
    rintro e w3 ⟨rfl, hb3⟩
    have HB3 := Lib.hid (below_step HB2.out hb3)
    clear hb3
    generalize orthB n a b = t at *
    go_wp2
    go_ret2
    exact ⟨by rw [HE.out.1, HE.out.2]; rfl, HB3.out⟩
  · have HE : Hid (matesB a b = false ∧ matesE a b = 2) := by
      have h4 : ¬ (fullB a = true ∧ fullB b = true ∧ a.length = b.length) := fun h => h3 (by rw [← hla, ← hlb]; exact h.2.2)
      unfold matesB matesE; rw [if_neg h4, if_neg h4]; exact ⟨rfl, rfl⟩
    have hq : ((n : Int) != (m : Int)) = true := by simp; omega
    have hq2 : (n != m) = true := by simp; omega
    clear ha hb h1 h2
    go_enter Tryd.func32, Tryd.ntmps32
    go_wp2_with fail
    refine K1.out.mono ?_
    rintro e w1 ⟨rfl, hb1⟩
    have HB1 := Lib.hid hb1
    clear hb1
    go_wp2_with fail
    refine (K2.out w1 HB1.out).mono ?_
    rintro e w2 ⟨rfl, hb2⟩
    have HB2 := Lib.hid (below_step HB1.out hb2)
    clear hb2
    go_wp2
    go_ret2
    exact ⟨by rw [HE.out.1, HE.out.2]; rfl, HB2.out⟩
end Go.Proofs.YtiodednhadnekaaDoor
