/- Walk: copied; what LuckHalves is handed. -/
import Derived.Test.YtfaenbaaadjbbaaW46
import Derived.Test.YtfaenbaaadjbbaaW26
namespace Go.Proofs.Ytfaenbaaadjbbaa
open Go.RowKit Go.Deep

/-- A slice in it that is nil is empty. -/
def Nils (w : World) (A : Option Addr) (n : Nat) : Prop := ∀ b off, A = some ⟨b, off, none⟩ → ∀ j, j < n → ∀ l c, w.cell? ⟨b, off + j, none⟩ = some (.slice none l c) → l = 0 ∧ c = 0
def Came4 (w : World) (A : Option Addr) (n : Nat) (xss : List (List Int)) : Prop := Came2 w A n xss ∧ Nils w A n
theorem came4_of {w : World} {a1 : Option Addr} {len1 cap1 : Nat} {X : Prop} {Y : Addr → Nat → Nat → (Nat → Option Addr) → (Nat → Nat) → (Nat → List Int) → Prop}
    (h : ([Value.slice a1 len1 cap1] = [.slice none 0 0] ∧ X) ∨ ∃ (a : Addr) (len cap : Nat) (A : Nat → Option Addr) (L C : Nat → Nat) (Z : Nat → List Int), [Value.slice a1 len1 cap1] = [.slice (some a) len cap] ∧ 0 ≤ a.block ∧ len ≤ cap ∧ cap ≤ maxLen ∧ Y a len cap A L Z ∧
      ∀ r, r < cap → w.cell? (a.add r) = some (.slice (A r) (L r) (C r)) ∧ L r ≤ C r ∧ C r ≤ maxLen ∧ (Z r).length = C r ∧ (∀ n ∈ Z r, (Lit.int .i64 n).wf = true) ∧ (A r = none → C r = 0) ∧
        ∀ a', A r = some a' → 0 ≤ a'.block ∧ ∀ c, c < C r → w.cell? (a'.add c) = some (.int .i64 ((Z r).getD c 0))) : ∃ xss, Came4 w a1 len1 xss := by
  obtain ⟨xss, hx⟩ := came2_of h
  refine ⟨xss, hx, fun b off hA j hj l c hc => ?_⟩
  rcases h with ⟨e, _⟩ | ⟨a, len, cap, A, L, C, Z, e, _, hl, hm, _, hr⟩
  · simp only [List.cons.injEq, Value.slice.injEq, and_true] at e
    omega
  · simp only [List.cons.injEq, Value.slice.injEq, and_true] at e
    obtain ⟨rfl, rfl, rfl⟩ := e
    injection hA with hA
    subst hA
    obtain ⟨h1, h2, _, _, _, h5, _⟩ := hr j (by omega)
    rw [Go.WideShapes.add_plain, hc] at h1
    injection h1 with h1
    injection h1 with h1 h3 h4
    have := h5 h1.symm
    omega
/-- A row of ints lies in no block of slices. -/
theorem Row.otherV {w w' : World} {base base' : Nat} {v u : Value} {xs : List Int} {us : List Value} (h : Row w base v xs) (hu : RowV w base' u us) (hg : w.grownBy w' u.ownBlock) : Row w' base v xs :=
  World.ownsRow.kept h hg (by
    rcases h.2 with ⟨e, hn⟩ | ⟨g, cap, cur, e, hb, hh, _⟩
    · left; rw [e]; rfl
    · right
      intro hx
      rcases hu.2 with ⟨e2, hn2⟩ | ⟨g', cap', cur', e2, hb', hh', _⟩
      · rw [e, e2] at hx; simp [Value.ownBlock] at hx
      · rw [e, e2] at hx
        have hgg : g = g' := by simpa [Value.ownBlock] using hx
        subst hgg
        rw [hh] at hh'
        injection hh' with hh'
        injection hh' with _ hh'
        exact absurd hh' (by decide))
theorem RowV.none_ {w w' : World} {base : Nat} {v : Value} {vs : List Value} (h : RowV w base v vs) (hg : w.grownBy w' none) : RowV w' base v vs :=
  World.ownsRow.kept h hg (by cases hv : v.ownBlock <;> simp)
theorem Row.none_ {w w' : World} {base : Nat} {v : Value} {vs : List Int} (h : Row w base v vs) (hg : w.grownBy w' none) : Row w' base v vs :=
  World.ownsRow.kept h hg (by cases hv : v.ownBlock <;> simp)
set_option maxRecDepth 100000 in
set_option maxHeartbeats 4000000 in
/-- dibberlaw05.copied -/
theorem f46_any (A : Option Addr) (k c : Nat) (said : List (List Int)) (w : World) (hs : IntsS w A k said) (hn : Nils w A k) (hk : k ≤ 250) (hrow : ∀ i, (said.getD i []).length ≤ 40) :
    Calls Try.prog 46 #[.slice A k c] w fun e w' => ∃ A' c', e = .returned (.slice A' k c') ∧ IntsS w' A' k said ∧ Below w.heap.size w w' := by
  have HS := Lib.hid hs
  have HN := Lib.hid hn
  have HR := Lib.hid hrow
  have HL := Lib.hid hs.len
  clear hs hn hrow
  go_enter Try.func46, Try.ntmps46
  go_wp2
  go_loopw [3, 4, 5] (fun v i _ wr => ∃ (q : Nat) (vs : List Value), q ≤ k ∧ i = .int .i64 (q : Int) ∧ RowV wr w.heap.size v vs ∧ Below w.heap.size w wr ∧ Hid (vs.length = q ∧ ∀ j, j < q → ∃ u, vs[j]? = some u ∧ Row wr w.heap.size u (said.getD j []))) (fun _ i _ _ => k - (intOf i).toNat)
  case atStart => exact ⟨0, [], by omega, rfl, RowV.nil _ _, Below.refl _ _, ⟨rfl, fun j hj => absurd hj (by omega)⟩⟩
  case round => as_aux_lemma =>
    obtain ⟨q, vs, hq, rfl, hrow, hbel, hI⟩ := hrel
    have HRW := Lib.hid hrow
    have HB := Lib.hid hbel
    by_cases hlt : q < k
    · obtain ⟨b, off, hA, D, e, hcr, hi⟩ := HS.out.at_ hlt
      have hnil := HN.out b off hA q hlt (said.getD q []).length e
      subst hA
      have hnil2 : Hid (D = none → (said.getD q []).length = 0 ∧ e = 0) := fun h => hnil (by rw [← h]; exact hcr)
      have hc1 := (hbel.cell (lt_of_cell hcr)).trans hcr
      have HI := Lib.hid (hi.below hbel)
      have hl40 := HR.out q
      have hq0 : (0 : Int) ≤ (q : Int) := by omega
      have hqk : (q : Int) < (k : Int) := by omega
      have hvl := hI.out.1
      have HI2 := Lib.hid hI
      have hsz := hbel.size
      generalize hr : said.getD q [] = row at *
      have HRR := Lib.hid hr
      have HLEN : Hid (row.length = row.length) := rfl
      clear hrow hbel hcr hi hnil hI hr HLEN
      go_wp2_with (first
        | (at_builtin; refine wpList_pushAll rfl (.tmp 13) (.tmp 17) rfl w.heap.size _ [] rfl (Row.nil wr w.heap.size) D row.length e row rfl hnil2.out HI.out (by simp; omega) hsz ?_; intro v1 w1 hr1 hg1; have hB1 : Below w.heap.size w w1 := below_grown HB.out hg1 hsz (Row.nil wr w.heap.size) (Nat.le_refl _); obtain ⟨A1, c1, he1, hi1⟩ := hr1.form; subst he1; have HR1 : Hid (Row w1 w.heap.size (.slice A1 row.length c1) row) := hr1; have HV1 := Lib.hid (HRW.out.none_ hg1); have HK1 : Hid (∀ u xs, Row wr w.heap.size u xs → Row w1 w.heap.size u xs) := fun u xs h => h.none_ hg1; have HB1 := Lib.hid hB1; have hsz1 := hB1.size; clear hr1 hg1 hi1 hB1)
        | (at_builtin; refine wpList_pushV rfl (.tmp 12) (.tmp 19) rfl w.heap.size _ vs rfl (HV1.out.alloc _) w1.heap.size 1 A1 row.length c1 rfl (cell_new w1 _ 31 0) (by omega) (by simp; omega) ?_; intro v2 w2 hr2 hg2 ho2))
      have HB2 : Hid (Below w.heap.size w w2) := below_grownV (HB1.out.alloc hsz1 _) hg2 (by simp; omega) (HV1.out.alloc _) (Nat.le_refl _)
      have HV2 := Lib.hid hr2
      have HKV : Hid (∀ u xs, Row w1 w.heap.size u xs → Row w2 w.heap.size u xs) := fun u xs h => (h.alloc _).otherV (HV1.out.alloc _) hg2
      clear hr2 hg2 ho2
      go_wp2_with fail
      go_roundw
      case rel =>
        obtain ⟨i1, i2⟩ := HI2.out.out
        refine ⟨q + 1, _, by omega, by go_num, HV2.out, HB2.out, ⟨by simp [i1], fun j hj => ?_⟩⟩
        rcases Nat.lt_or_ge j q with h | h
        · obtain ⟨u, h1, h2⟩ := i2 j h
          exact ⟨u, by rw [List.getElem?_append_left (by omega)]; exact h1, HKV.out _ _ (HK1.out _ _ h2)⟩
        · obtain rfl : j = q := by omega
          refine ⟨.slice A1 row.length c1, by rw [← i1]; simp, ?_⟩
          rw [HRR.out]
          exact HKV.out _ _ HR1.out
      case measure => simp [intOf]; omega
    · obtain rfl : q = k := by omega
      obtain ⟨i1, i2⟩ := hI.out
      obtain ⟨A1, c1, rfl, hs1⟩ := hrow.ints (xss := said) (by rw [HL.out]; exact i1) (by rw [HL.out]; omega) (fun j hj => by
        rw [HL.out] at hj
        obtain ⟨u, h1, h2⟩ := i2 j hj
        obtain ⟨A2, c2, rfl, h3⟩ := h2.form
        have h4 := HR.out j
        exact ⟨A2, c2, h1, h3 1000 (by omega) (by omega)⟩)
      rw [HL.out] at hs1 ⊢
      have HS1 := Lib.hid hs1
      clear hrow hbel hI i1 i2 hs1
      go_wp2
      go_ret
      exact ⟨_, _, rfl, HS1.out, HB.out⟩
end Go.Proofs.Ytfaenbaaadjbbaa
