/- Plain laws: the shape of a bed, and where a crop is again. No condition. -/
import Derived.Test.YtiodednhadnekaaDoorPlain2
namespace Go.Proofs.YtiodednhadnekaaDoor
/-! ### the first index -/
def fIdx {α : Type} (p : α → Bool) (l : List α) : Int := match l.findIdx? p with | some k => (k : Int) | none => -1
theorem fIdx_hit {α : Type} (p : α → Bool) (l : List α) (d : α) (k : Nat) (hk : k < l.length) (h : p (l.getD k d) = true) (hb : ∀ j, j < k → p (l.getD j d) = false) : fIdx p l = k := by
  have e : l.findIdx? p = some k := by
    rw [List.findIdx?_eq_some_iff_getElem]
    refine ⟨hk, by simpa [List.getD_eq_getElem?_getD, hk] using h, fun j hj => ?_⟩
    have := hb j hj
    have hjl : j < l.length := by omega
    simpa [List.getD_eq_getElem?_getD, hjl] using this
  unfold fIdx; rw [e]
theorem fIdx_miss {α : Type} (p : α → Bool) (l : List α) (d : α) (hb : ∀ j, j < l.length → p (l.getD j d) = false) : fIdx p l = -1 := by
  have e : l.findIdx? p = none := by
    rw [List.findIdx?_eq_none_iff]
    intro x hx
    obtain ⟨j, hj, rfl⟩ := List.getElem_of_mem hx
    simpa [List.getD_eq_getElem?_getD, hj] using hb j hj
  unfold fIdx; rw [e]
theorem fIdx_any {α : Type} (p : α → Bool) (l : List α) : decide (0 ≤ fIdx p l) = l.any p := by
  unfold fIdx
  cases h : l.findIdx? p with
  | none =>
    rw [List.findIdx?_eq_none_iff] at h
    have : l.any p = false := by rw [List.any_eq_false]; intro x hx; simp [h x hx]
    simp [this]
  | some k =>
    obtain ⟨hk, h1, _⟩ := List.findIdx?_eq_some_iff_getElem.1 h
    have : l.any p = true := by rw [List.any_eq_true]; exact ⟨_, List.getElem_mem hk, h1⟩
    simp [this]
/-! ### the shape -/
def outB (lo : Int) (n : Nat) (x : Int) : Bool := decide (x < lo) || decide ((n : Int) ≤ x)
def badRow (lo : Int) (n : Nat) (l : List Int) : Bool := decide (l.length ≠ n) || l.any (outB lo n)
def shapedB (b : List (List Int)) : Bool := decide (1 ≤ b.length) && decide (b.length ≤ 7) && !b.any (badRow (-1) b.length)
theorem badRow_false {lo : Int} {n : Nat} {l : List Int} : badRow lo n l = false ↔ l.length = n ∧ ∀ j, j < n → lo ≤ l.getD j 0 ∧ l.getD j 0 < n := by
  unfold badRow
  rw [Bool.or_eq_false_iff, decide_eq_false_iff_not, List.any_eq_false]
  constructor
  · rintro ⟨h1, h2⟩
    have h1 : l.length = n := by omega
    refine ⟨h1, fun j hj => ?_⟩
    have hjl : j < l.length := by omega
    have := h2 _ (List.getElem_mem hjl)
    unfold outB at this
    simp only [Bool.or_eq_true, decide_eq_true_eq, not_or] at this
    rw [List.getD_eq_getElem?_getD, List.getElem?_eq_getElem hjl, Option.getD_some]
    omega
  · rintro ⟨h1, h2⟩
    refine ⟨by omega, fun x hx => ?_⟩
    obtain ⟨j, hj, rfl⟩ := List.getElem_of_mem hx
    have := h2 j (by omega)
    rw [List.getD_eq_getElem?_getD, List.getElem?_eq_getElem hj, Option.getD_some] at this
    unfold outB
    simp only [Bool.or_eq_true, decide_eq_true_eq, not_or]
    omega
theorem anyBad_false {lo : Int} {n : Nat} {b : List (List Int)} : b.any (badRow lo n) = false ↔ ∀ r, r < b.length → badRow lo n (b.getD r []) = false := by
  rw [List.any_eq_false]
  constructor
  · intro h r hr
    have := h _ (List.getElem_mem hr)
    rw [List.getD_eq_getElem?_getD, List.getElem?_eq_getElem hr, Option.getD_some]
    simpa using this
  · intro h x hx
    obtain ⟨j, hj, rfl⟩ := List.getElem_of_mem hx
    have := h j hj
    rw [List.getD_eq_getElem?_getD, List.getElem?_eq_getElem hj, Option.getD_some] at this
    simp [this]
theorem anyBad_true {lo : Int} {n : Nat} {b : List (List Int)} {r : Nat} (hr : r < b.length) (h : badRow lo n (b.getD r []) = true) : b.any (badRow lo n) = true := by
  cases hb : b.any (badRow lo n)
  · rw [anyBad_false.1 hb r hr] at h; exact h
  · rfl
theorem badRow_len {lo : Int} {n : Nat} {l : List Int} (h : l.length ≠ n) : badRow lo n l = true := by
  unfold badRow; rw [decide_eq_true h, Bool.true_or]
theorem badRow_out {lo : Int} {n : Nat} {l : List Int} {j : Nat} (hj : j < l.length) (h : outB lo n (l.getD j 0) = true) : badRow lo n l = true := by
  unfold badRow
  rw [List.getD_eq_getElem?_getD, List.getElem?_eq_getElem hj, Option.getD_some] at h
  rw [List.any_eq_true.2 ⟨_, List.getElem_mem hj, h⟩, Bool.or_true]
theorem shaped_iff {b : List (List Int)} : shapedB b = true ↔ 1 ≤ b.length ∧ b.length ≤ 7 ∧ sqShape b.length b ∧ ∀ r c, r < b.length → c < b.length → -1 ≤ gAt b r c ∧ gAt b r c < b.length := by
  unfold shapedB
  rw [Bool.and_eq_true, Bool.and_eq_true, decide_eq_true_eq, decide_eq_true_eq, Bool.not_eq_true', anyBad_false]
  constructor
  · rintro ⟨⟨h1, h2⟩, h3⟩
    exact ⟨h1, h2, ⟨rfl, fun r hr => (badRow_false.1 (h3 r hr)).1⟩, fun r c hr hc => (badRow_false.1 (h3 r hr)).2 c hc⟩
  · rintro ⟨h1, h2, h3, h4⟩
    exact ⟨⟨h1, h2⟩, fun r hr => badRow_false.2 ⟨h3.2 r hr, fun c hc => h4 r c hr hc⟩⟩
/-! ### where a crop is again -/
def hasB (x : Int) (l : List Int) : Bool := l.any fun y => x == y
def aboveB (b : List (List Int)) (r c : Nat) (x : Int) : Bool := (b.take r).any fun o => o.getD c 0 == x
def clashAt (b : List (List Int)) (r c : Nat) : Bool := decide (0 ≤ gAt b r c) && (aboveB b r c (gAt b r c) || hasB (gAt b r c) ((b.getD r []).take c))
def clashPos (b : List (List Int)) : Option (Nat × Nat) := (List.range b.length).findSome? fun r => ((List.range (b.getD r []).length).find? (clashAt b r)).map fun c => (r, c)
def clR (b : List (List Int)) : Int := match clashPos b with | some p => (p.1 : Int) | none => 0
def clC (b : List (List Int)) : Int := match clashPos b with | some p => (p.2 : Int) | none => 0
def clB (b : List (List Int)) : Bool := (clashPos b).isSome
theorem find_none {p : Nat → Bool} {n : Nat} (h : ∀ j, j < n → p j = false) : (List.range n).find? p = none := by
  rw [List.find?_eq_none]; intro x hx; simp [h x (List.mem_range.1 hx)]
theorem find_some {p : Nat → Bool} {n k : Nat} (hk : k < n) (h : p k = true) (hb : ∀ j, j < k → p j = false) : (List.range n).find? p = some k := by
  rw [List.find?_range_eq_some]
  exact ⟨h, List.mem_range.2 hk, fun j hj => by simp [hb j hj]⟩
theorem findSome_some {α : Type} {f : Nat → Option α} {n k : Nat} {y : α} (hk : k < n) (h : f k = some y) (hb : ∀ j, j < k → f j = none) : (List.range n).findSome? f = some y := by
  induction n with
  | zero => omega
  | succ n ih =>
    rw [List.range_succ, List.findSome?_append]
    rcases Nat.lt_or_ge k n with h1 | h1
    · rw [ih h1]; rfl
    · obtain rfl : k = n := by omega
      have : (List.range k).findSome? f = none := by
        rw [List.findSome?_eq_none_iff]; intro x hx; exact hb x (List.mem_range.1 hx)
      rw [this]
      simp [h]
theorem clash_none {b : List (List Int)} : clashPos b = none ↔ ∀ r c, r < b.length → c < (b.getD r []).length → clashAt b r c = false := by
  unfold clashPos
  rw [List.findSome?_eq_none_iff]
  constructor
  · intro h r c hr hc
    have := h r (List.mem_range.2 hr)
    rw [Option.map_eq_none_iff, List.find?_eq_none] at this
    simpa using this c (List.mem_range.2 hc)
  · intro h r hr
    rw [find_none (fun c hc => h r c (List.mem_range.1 hr) hc)]
    rfl
theorem clash_some {b : List (List Int)} {r c : Nat} (hr : r < b.length) (hc : c < (b.getD r []).length) (h : clashAt b r c = true) (hb : ∀ i j, i < r → j < (b.getD i []).length → clashAt b i j = false) (hb2 : ∀ j, j < c → clashAt b r j = false) : clashPos b = some (r, c) := by
  unfold clashPos
  refine findSome_some hr ?_ fun i hi => ?_
  · rw [find_some hc h hb2]; rfl
  · rw [find_none (fun j hj => hb i j hi hj)]; rfl
theorem cl_some {b : List (List Int)} {r c : Nat} (h : clashPos b = some (r, c)) : clR b = r ∧ clC b = c ∧ clB b = true := by
  unfold clR clC clB; rw [h]; exact ⟨rfl, rfl, rfl⟩
theorem cl_none {b : List (List Int)} (h : clashPos b = none) : clR b = 0 ∧ clC b = 0 ∧ clB b = false := by
  unfold clR clC clB; rw [h]; exact ⟨rfl, rfl, rfl⟩
theorem clB_false {b : List (List Int)} : clB b = false ↔ clashPos b = none := by
  unfold clB; cases clashPos b <;> simp
theorem hasB_take {x : Int} {l : List Int} {c : Nat} (hc : c ≤ l.length) : hasB x (l.take c) = true ↔ ∃ j, j < c ∧ l.getD j 0 = x := by
  unfold hasB
  rw [List.any_eq_true]
  constructor
  · rintro ⟨y, hy, e⟩
    obtain ⟨j, hj, rfl⟩ := List.getElem_of_mem hy
    rw [List.length_take] at hj
    have hjl : j < l.length := by omega
    refine ⟨j, by omega, ?_⟩
    rw [List.getElem_take] at e
    rw [List.getD_eq_getElem?_getD, List.getElem?_eq_getElem hjl, Option.getD_some]
    exact (eq_of_beq e).symm
  · rintro ⟨j, hj, e⟩
    have hjl : j < l.length := by omega
    rw [List.getD_eq_getElem?_getD, List.getElem?_eq_getElem hjl, Option.getD_some] at e
    refine ⟨x, ?_, by simp⟩
    rw [List.mem_take_iff_getElem]
    exact ⟨j, by omega, e⟩
theorem aboveB_iff {b : List (List Int)} {r c : Nat} {x : Int} (hr : r ≤ b.length) : aboveB b r c x = true ↔ ∃ i, i < r ∧ gAt b i c = x := by
  unfold aboveB
  rw [List.any_eq_true]
  constructor
  · rintro ⟨o, ho, e⟩
    rw [List.mem_take_iff_getElem] at ho
    obtain ⟨i, hi, rfl⟩ := ho
    have hil : i < b.length := by omega
    refine ⟨i, by omega, ?_⟩
    unfold gAt
    rw [List.getD_eq_getElem?_getD (l := b), List.getElem?_eq_getElem hil, Option.getD_some]
    exact eq_of_beq e
  · rintro ⟨i, hi, e⟩
    have hil : i < b.length := by omega
    unfold gAt at e
    rw [List.getD_eq_getElem?_getD (l := b), List.getElem?_eq_getElem hil, Option.getD_some] at e
    exact ⟨b[i], List.mem_take_iff_getElem.2 ⟨i, by omega, rfl⟩, by simp only [e, beq_self_eq_true]⟩
theorem clashAt_iff {b : List (List Int)} {r c : Nat} (hr : r < b.length) (hc : c < (b.getD r []).length) : clashAt b r c = true ↔ 0 ≤ gAt b r c ∧ ((∃ i, i < r ∧ gAt b i c = gAt b r c) ∨ ∃ j, j < c ∧ gAt b r j = gAt b r c) := by
  unfold clashAt
  rw [Bool.and_eq_true, Bool.or_eq_true, decide_eq_true_eq, aboveB_iff (by omega), hasB_take (by omega)]
  rfl
theorem noTwice_iff {n : Nat} {b : List (List Int)} (h : ∀ r, r < n → (b.getD r []).length = n) (hl : b.length = n) : NoTwice n b ↔ clashPos b = none := by
  rw [clash_none]
  constructor
  · intro hn r c hr hc
    cases hcl : clashAt b r c
    · rfl
    · exfalso
      have hr' : r < n := by omega
      have hc' : c < n := by rw [← h r hr']; exact hc
      obtain ⟨h0, ⟨i, hi, e⟩ | ⟨j, hj, e⟩⟩ := (clashAt_iff hr hc).1 hcl
      · exact hn.2 r i c hr' (by omega) hc' (by omega) h0 e.symm
      · exact hn.1 r c j hr' hc' (by omega) (by omega) h0 e.symm
  · intro hcl
    have key : ∀ r c, r < n → c < n → 0 ≤ gAt b r c → (∀ i, i < r → gAt b i c ≠ gAt b r c) ∧ ∀ j, j < c → gAt b r j ≠ gAt b r c := fun r c hr hc h0 => by
      have := hcl r c (by omega) (by rw [h r hr]; exact hc)
      constructor
      · intro i hi e
        rw [(clashAt_iff (by omega) (by rw [h r hr]; exact hc)).2 ⟨h0, .inl ⟨i, hi, e⟩⟩] at this
        cases this
      · intro j hj e
        rw [(clashAt_iff (by omega) (by rw [h r hr]; exact hc)).2 ⟨h0, .inr ⟨j, hj, e⟩⟩] at this
        cases this
    refine ⟨fun r c d hr hc hd hne h0 e => ?_, fun r s c hr hs hc hne h0 e => ?_⟩
    · rcases Nat.lt_or_gt_of_ne hne with h1 | h1
      · exact (key r d hr hd (by omega)).2 c h1 e
      · exact (key r c hr hc h0).2 d h1 e.symm
    · rcases Nat.lt_or_gt_of_ne hne with h1 | h1
      · exact (key s c hs hc (by omega)).1 r h1 e
      · exact (key r c hr hc h0).1 s h1 e.symm
/-- Are numbers a bed? -/
def bedB (b : List (List Int)) : Bool := shapedB b && !clB b
theorem bedB_iff {b : List (List Int)} : bedB b = true ↔ 1 ≤ b.length ∧ b.length ≤ 7 ∧ IsBed b.length b := by
  unfold bedB
  rw [Bool.and_eq_true, Bool.not_eq_true', clB_false, shaped_iff]
  constructor
  · rintro ⟨⟨h1, h2, h3, h4⟩, h5⟩
    exact ⟨h1, h2, h3, h4, (noTwice_iff h3.2 rfl).2 h5⟩
  · rintro ⟨h1, h2, h3⟩
    exact ⟨⟨h1, h2, h3.shape, h3.lo⟩, (noTwice_iff h3.shape.2 rfl).1 h3.once⟩
/-- Is a bed full? -/
def fullB (b : List (List Int)) : Bool := bedB b && !b.any (hasB (-1))
theorem anyMinus {b : List (List Int)} (h : sqShape b.length b) : b.any (hasB (-1)) = false ↔ ∀ r c, r < b.length → c < b.length → gAt b r c ≠ -1 := by
  rw [List.any_eq_false]
  constructor
  · intro hh r c hr hc e
    have := hh _ (List.getElem_mem hr)
    have hl := h.2 r hr
    unfold gAt at e
    rw [List.getD_eq_getElem?_getD (l := b), List.getElem?_eq_getElem hr, Option.getD_some] at e hl
    have h2 : hasB (-1) (b[r].take b.length) = true := (hasB_take (by omega)).2 ⟨c, hc, e⟩
    rw [List.take_of_length_le (by omega)] at h2
    exact this h2
  · intro hh x hx hcon
    obtain ⟨r, hr, rfl⟩ := List.getElem_of_mem hx
    have hl := h.2 r hr
    rw [List.getD_eq_getElem?_getD, List.getElem?_eq_getElem hr, Option.getD_some] at hl
    rw [← List.take_of_length_le (Nat.le_of_eq hl)] at hcon
    obtain ⟨j, hj, e⟩ := (hasB_take (by omega)).1 hcon
    apply hh r j hr hj
    unfold gAt
    rw [List.getD_eq_getElem?_getD (l := b), List.getElem?_eq_getElem hr, Option.getD_some]
    exact e
theorem fullB_iff {b : List (List Int)} : fullB b = true ↔ 1 ≤ b.length ∧ b.length ≤ 7 ∧ IsFull b.length b := by
  unfold fullB
  rw [Bool.and_eq_true, bedB_iff, Bool.not_eq_true']
  constructor
  · rintro ⟨⟨h1, h2, h3⟩, h4⟩
    rw [anyMinus h3.shape] at h4
    exact ⟨h1, h2, h3.shape, fun r c hr hc => by have := h3.lo r c hr hc; have := h4 r c hr hc; omega, h3.once⟩
  · rintro ⟨h1, h2, h3⟩
    exact ⟨⟨h1, h2, h3.bed⟩, (anyMinus h3.shape).2 fun r c hr hc => by have := h3.lo r c hr hc; omega⟩
end Go.Proofs.YtiodednhadnekaaDoor
