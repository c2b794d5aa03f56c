/- Plain laws: starts of beds and the rows that can be sown after them. No condition. -/
import Derived.Test.YtiodednhadnekaaDoorPlain14
namespace Go.Proofs.YtiodednhadnekaaDoor

/-- Rows are a start. -/
structure StartP (n : Nat) (s : List (List Int)) : Prop where
  n1 : 1 ≤ n
  n7 : n ≤ 7
  len : s.length ≤ n
  row : ∀ r, r < s.length → (s.getD r []).length = n
  lo : ∀ r c, r < s.length → c < n → 0 ≤ gAt s r c ∧ gAt s r c < n
  rows : ∀ r c d, r < s.length → c < n → d < n → c ≠ d → gAt s r c ≠ gAt s r d
  cols : ∀ r t c, r < s.length → t < s.length → c < n → r ≠ t → gAt s r c ≠ gAt s t c
def startB (N : Int) (s : List (List Int)) : Bool := decide (1 ≤ N) && decide (N ≤ 7) && decide ((s.length : Int) ≤ N) && !s.any (badRow 0 N.toNat) && !clB s
theorem startB_iff {n : Nat} {s : List (List Int)} : startB (n : Int) s = true ↔ StartP n s := by
  unfold startB
  simp only [Bool.and_eq_true, decide_eq_true_eq, Bool.not_eq_true', Int.toNat_natCast]
  rw [anyBad_false, clB_false, clash_none]
  constructor
  · rintro ⟨⟨⟨⟨h1, h2⟩, h3⟩, h4⟩, h5⟩
    have hrow := fun r hr => badRow_false.1 (h4 r hr)
    have hlo : ∀ r c, r < s.length → c < n → 0 ≤ gAt s r c ∧ gAt s r c < n := fun r c hr hc => (hrow r hr).2 c hc
    have hcl : ∀ r c, r < s.length → c < n → ¬ ((∃ i, i < r ∧ gAt s i c = gAt s r c) ∨ ∃ j, j < c ∧ gAt s r j = gAt s r c) := fun r c hr hc h => by
      have hc' : c < (s.getD r []).length := by rw [(hrow r hr).1]; exact hc
      have := h5 r c hr hc'
      rw [(clashAt_iff hr hc').2 ⟨(hlo r c hr hc).1, h⟩] at this
      cases this
    refine ⟨by omega, by omega, by omega, fun r hr => (hrow r hr).1, hlo, fun r c d hr hc hd hcd e => ?_, fun r t c hr ht hc hrt e => ?_⟩
    · rcases Nat.lt_or_ge c d with h | h
      · exact hcl r d hr hd (.inr ⟨c, h, e⟩)
      · exact hcl r c hr hc (.inr ⟨d, by omega, e.symm⟩)
    · rcases Nat.lt_or_ge r t with h | h
      · exact hcl t c ht hc (.inl ⟨r, h, e⟩)
      · exact hcl r c hr hc (.inl ⟨t, by omega, e.symm⟩)
  · intro h
    refine ⟨⟨⟨⟨by have := h.n1; omega, by have := h.n7; omega⟩, by have := h.len; omega⟩, fun r hr => badRow_false.2 ⟨h.row r hr, fun j hj => h.lo r j hr hj⟩⟩, fun r c hr hc => ?_⟩
    rw [← Bool.not_eq_true]
    intro h2
    have hc' : c < n := by rw [← h.row r hr]; exact hc
    rcases ((clashAt_iff hr hc).1 h2).2 with ⟨i, hi, e⟩ | ⟨j, hj, e⟩
    · exact h.cols i r c (by omega) hr hc' (by omega) e
    · exact h.rows r j c hr (by omega) hc' (by omega) e
theorem startB_neg {N : Int} {s : List (List Int)} (h : startB N s = true) : ∃ n : Nat, N = n := by
  unfold startB at h
  simp only [Bool.and_eq_true, decide_eq_true_eq] at h
  exact ⟨N.toNat, by omega⟩
/-! ### the rows, in order -/
def okR (s : List (List Int)) (l : List Nat) (x : Nat) : Bool := (l.all fun y => decide (y ≠ x)) && (s.all fun row => decide (row.getD l.length 0 ≠ (x : Int)))
def rowsF (n : Nat) (s : List (List Int)) : Nat → List Nat → List (List Nat)
  | 0, l => [l]
  | k + 1, l => (List.range n).flatMap fun x => if okR s l x = true then rowsF n s k (l ++ [x]) else []
def rwS (n : Nat) (s : List (List Int)) : List (List Nat) := rowsF n s n []
theorem okR_iff {s : List (List Int)} {l : List Nat} {x : Nat} : okR s l x = true ↔ (∀ i, i < l.length → l.getD i 0 ≠ x) ∧ ∀ r, r < s.length → gAt s r l.length ≠ (x : Int) := by
  unfold okR
  rw [Bool.and_eq_true, List.all_eq_true, List.all_eq_true]
  simp only [decide_eq_true_eq]
  refine and_congr ⟨fun h i hi => h _ ?_, fun h y hy => ?_⟩ ⟨fun h r hr => h _ ?_, fun h row hrow => ?_⟩
  · simp [List.getD_eq_getElem?_getD, hi]
  · obtain ⟨i, hi, rfl⟩ := List.getElem_of_mem hy
    simpa [List.getD_eq_getElem?_getD, hi] using h i hi
  · simp [List.getD_eq_getElem?_getD, hr]
  · obtain ⟨r, hr, rfl⟩ := List.getElem_of_mem hrow
    have := h r hr
    unfold gAt at this
    simpa [List.getD_eq_getElem?_getD (l := s), hr] using this
/-- A row that can be sown. -/
def IsRow (n : Nat) (s : List (List Int)) (l : List Nat) : Prop := l.length = n ∧ (∀ i, i < n → l.getD i 0 < n) ∧ (∀ i j, i < j → j < n → l.getD i 0 ≠ l.getD j 0) ∧ ∀ r c, r < s.length → c < n → gAt s r c ≠ (l.getD c 0 : Int)
def PreRow (s : List (List Int)) (l : List Nat) : Prop := (∀ i j, i < j → j < l.length → l.getD i 0 ≠ l.getD j 0) ∧ ∀ r c, r < s.length → c < l.length → gAt s r c ≠ (l.getD c 0 : Int)
theorem okR_pre {s : List (List Int)} {l : List Nat} {x : Nat} (hp : PreRow s l) : okR s l x = true ↔ PreRow s (l ++ [x]) := by
  rw [okR_iff]
  constructor
  · rintro ⟨h1, h2⟩
    refine ⟨fun i j hij hj => ?_, fun r c hr hc => ?_⟩
    · rw [List.length_append, List.length_singleton] at hj
      rcases Nat.lt_or_ge j l.length with h | h
      · rw [getD_app1 h, getD_app1 (show i < l.length by omega)]; exact hp.1 i j hij h
      · obtain rfl : j = l.length := by omega
        rw [getD_app2, getD_app1 hij]; exact h1 i hij
    · rw [List.length_append, List.length_singleton] at hc
      rcases Nat.lt_or_ge c l.length with h | h
      · rw [getD_app1 h]; exact hp.2 r c hr h
      · obtain rfl : c = l.length := by omega
        rw [getD_app2]; exact h2 r hr
  · intro h
    refine ⟨fun i hi => ?_, fun r hr => ?_⟩
    · have := h.1 i l.length hi (by simp)
      rwa [getD_app2, getD_app1 hi] at this
    · have := h.2 r l.length hr (by simp)
      rwa [getD_app2] at this
theorem mem_rowsF {n : Nat} {s : List (List Int)} : ∀ (k : Nat) (l : List Nat), l.length + k = n → (∀ i, i < l.length → l.getD i 0 < n) → PreRow s l → ∀ l', l' ∈ rowsF n s k l ↔ l'.length = n ∧ (∀ i, i < l.length → l'.getD i 0 = l.getD i 0) ∧ (∀ i, i < n → l'.getD i 0 < n) ∧ PreRow s l'
  | 0, l, hl, hln, hp, l' => by
    simp only [rowsF, List.mem_singleton]
    constructor
    · rintro rfl
      exact ⟨by omega, fun _ _ => rfl, fun i hi => hln i (by omega), hp⟩
    · rintro ⟨h1, h2, _, _⟩
      apply List.ext_getElem (by omega)
      intro i a1 a2
      have := h2 i a2
      simpa [List.getD_eq_getElem?_getD, a1, a2] using this
  | k + 1, l, hl, hln, hp, l' => by
    have hlt : l.length < n := by omega
    have hln' : ∀ c, c < n → ∀ i, i < (l ++ [c]).length → (l ++ [c]).getD i 0 < n := fun c hc i hi => by
      rw [List.length_append, List.length_singleton] at hi
      rcases Nat.lt_or_ge i l.length with h | h
      · rw [getD_app1 h]; exact hln i h
      · obtain rfl : i = l.length := by omega
        rw [getD_app2]; exact hc
    unfold rowsF
    rw [List.mem_flatMap]
    constructor
    · rintro ⟨c, hc, h⟩
      have hc := List.mem_range.1 hc
      cases hok : okR s l c
      · rw [hok] at h; simp at h
      · rw [hok, if_pos rfl] at h
        have hpc := (okR_pre hp).1 hok
        obtain ⟨h1, h2, h3, h4⟩ := (mem_rowsF k (l ++ [c]) (by simp; omega) (hln' c hc) hpc l').1 h
        refine ⟨h1, fun i hi => ?_, h3, h4⟩
        rw [h2 i (by simp; omega), getD_app1 hi]
    · rintro ⟨h1, h2, h3, h4⟩
      have hc := h3 l.length hlt
      refine ⟨l'.getD l.length 0, List.mem_range.2 hc, ?_⟩
      have heq : ∀ i, i < (l ++ [l'.getD l.length 0]).length → l'.getD i 0 = (l ++ [l'.getD l.length 0]).getD i 0 := fun i hi => by
        rw [List.length_append, List.length_singleton] at hi
        rcases Nat.lt_or_ge i l.length with h | h
        · rw [getD_app1 h]; exact h2 i h
        · obtain rfl : i = l.length := by omega
          rw [getD_app2]
      have hpc : PreRow s (l ++ [l'.getD l.length 0]) := by
        refine ⟨fun i j hij hj => ?_, fun r c hr hc => ?_⟩
        · rw [← heq i (by omega), ← heq j hj]
          exact h4.1 i j hij (by simp at hj; omega)
        · rw [← heq c hc]
          exact h4.2 r c hr (by simp at hc; omega)
      rw [(okR_pre hp).2 hpc, if_pos rfl]
      exact (mem_rowsF k _ (by simp; omega) (hln' _ hc) hpc l').2 ⟨h1, heq, h3, h4⟩
theorem mem_rwS {n : Nat} {s : List (List Int)} (l : List Nat) : l ∈ rwS n s ↔ IsRow n s l := by
  unfold rwS
  rw [mem_rowsF n [] (by simp) (fun i hi => by simp at hi) ⟨fun i j _ hj => by simp at hj, fun r c _ hc => by simp at hc⟩]
  constructor
  · rintro ⟨h1, _, h3, h4⟩
    exact ⟨h1, h3, fun i j hij hj => h4.1 i j hij (by omega), fun r c hr hc => h4.2 r c hr (by omega)⟩
  · rintro ⟨h1, h2, h3, h4⟩
    exact ⟨h1, fun i hi => by simp at hi, h2, fun i j hij hj => h3 i j hij (by omega), fun r c hr hc => h4 r c hr (by omega)⟩
theorem rowsF_len (n : Nat) (s : List (List Int)) : ∀ (k : Nat) (l : List Nat), (rowsF n s k l).length ≤ n ^ k
  | 0, _ => by simp [rowsF]
  | k + 1, l => by
    have h : ∀ m, ((List.range m).flatMap fun x => if okR s l x = true then rowsF n s k (l ++ [x]) else []).length ≤ m * n ^ k := by
      intro m
      induction m with
      | zero => simp
      | succ m ih =>
        rw [List.range_succ, List.flatMap_append, List.length_append, Nat.succ_mul]
        have : ((if okR s l m = true then rowsF n s k (l ++ [m]) else [])).length ≤ n ^ k := by
          split
          · exact rowsF_len n s k _
          · simp
        simp only [List.flatMap_cons, List.flatMap_nil, List.append_nil]
        omega
    have := h n
    rw [Nat.pow_succ, Nat.mul_comm]
    exact this
/-! ### a start has a row, and many -/
theorem start_many {n : Nat} {s : List (List Int)} (h : StartP n s) (hk : s.length < n) : factN (n - s.length) ≤ (rwS n s).length := by
  have hA : ∀ j x, ((fun j x => s.all fun row => decide (row.getD j 0 ≠ ((x : Nat) : Int))) : Nat → Nat → Bool) j x = true ↔ ∀ r, r < s.length → gAt s r j ≠ (x : Int) := fun j x => by
    show (s.all fun row => decide (row.getD j 0 ≠ ((x : Nat) : Int))) = true ↔ _
    rw [List.all_eq_true]
    simp only [decide_eq_true_eq]
    refine ⟨fun h r hr => h _ ?_, fun h row hrow => ?_⟩
    · simp [List.getD_eq_getElem?_getD, hr]
    · obtain ⟨r, hr, rfl⟩ := List.getElem_of_mem hrow
      have := h r hr
      unfold gAt at this
      simpa [List.getD_eq_getElem?_getD (l := s), hr] using this
  generalize ((fun j x => s.all fun row => decide (row.getD j 0 ≠ ((x : Nat) : Int))) : Nat → Nat → Bool) = A at hA
  have hlo : ∀ r c, r < s.length → c < n → ((gAt s r c).toNat : Int) = gAt s r c ∧ (gAt s r c).toNat < n := fun r c hr hc => by have := h.lo r c hr hc; omega
  -- each column has n - k open crops
  have hdeg : ∀ j ∈ List.range n, n - s.length ≤ ((List.range n).filter (A j)).length := fun j hj => by
    have hj := List.mem_range.1 hj
    have hnd : ((List.range s.length).map fun r => (gAt s r j).toNat).Nodup := List.pairwise_map.2 (List.Pairwise.imp_of_mem (fun {r t} hr ht hne e => by
      have hr := List.mem_range.1 hr
      have ht := List.mem_range.1 ht
      have e : (gAt s r j).toNat = (gAt s t j).toNat := e
      exact h.cols r t j hr ht hj hne (by rw [← (hlo r j hr hj).1, ← (hlo t j ht hj).1, e])) List.nodup_range)
    have h1 := not_mem_len (n := n) (J := List.range n) List.nodup_range hnd (fun x hx => by
      obtain ⟨r, hr, rfl⟩ := List.mem_map.1 hx
      exact List.mem_range.2 (hlo r j (List.mem_range.1 hr) hj).2)
    rw [List.length_map, List.length_range, List.length_range] at h1
    have h2 : ((List.range n).filter fun x => !((List.range s.length).map fun r => (gAt s r j).toNat).contains x).length ≤ ((List.range n).filter (A j)).length := filter_mono fun x hx hx2 => by
      rw [hA]
      intro r hr e
      have : x ∈ (List.range s.length).map fun r => (gAt s r j).toNat := List.mem_map.2 ⟨r, List.mem_range.2 hr, by rw [e]; simp⟩
      simp [this] at hx2
    omega
  -- each crop is open in n - k columns
  have hreg : ∀ x, x < n → ∀ I : List Nat, I.Nodup → (∀ j ∈ I, j ∈ List.range n) → (I.filter fun j => A j x).length ≤ n - s.length := fun x hx I hI hs => by
    have hpos : ∀ r, r < s.length → ∃ c, c < n ∧ gAt s r c = (x : Int) := fun r hr => by
      obtain ⟨c, hc, e⟩ := onto_of_inj (n := n) (f := fun c => (gAt s r c).toNat) (fun c hc => (hlo r c hr hc).2) (fun c d hc hd hcd e => by
        have e : (gAt s r c).toNat = (gAt s r d).toNat := e
        exact h.rows r c d hr hc hd hcd (by rw [← (hlo r c hr hc).1, ← (hlo r d hr hd).1, e])) x hx
      have e : (gAt s r c).toNat = x := e
      exact ⟨c, hc, by rw [← (hlo r c hr hc).1, e]⟩
    obtain ⟨P, hP⟩ : ∃ P : Nat → Nat, ∀ r, r < s.length → P r < n ∧ gAt s r (P r) = (x : Int) := by
      refine ⟨fun r => if hr : r < s.length then (hpos r hr).choose else 0, fun r hr => ?_⟩
      simp only [dif_pos hr]
      exact (hpos r hr).choose_spec
    have hnd : ((List.range s.length).map P).Nodup := List.pairwise_map.2 (List.Pairwise.imp_of_mem (fun {r t} hr ht hne e => by
      have hr := List.mem_range.1 hr
      have ht := List.mem_range.1 ht
      obtain ⟨a1, a2⟩ := hP r hr
      obtain ⟨a3, a4⟩ := hP t ht
      rw [← e] at a4
      exact h.cols r t _ hr ht a1 hne (by rw [a2, a4])) List.nodup_range)
    have h1 := not_mem_len (n := n) (J := List.range n) List.nodup_range hnd (fun c hc => by
      obtain ⟨r, hr, rfl⟩ := List.mem_map.1 hc
      exact List.mem_range.2 (hP r (List.mem_range.1 hr)).1)
    rw [List.length_map, List.length_range, List.length_range] at h1
    have h2 := nodup_sub (l := I.filter fun j => A j x) (m := (List.range n).filter fun j => !((List.range s.length).map P).contains j) (hI.filter _) (fun j hj => by
      obtain ⟨hj1, hj2⟩ := List.mem_filter.1 hj
      refine List.mem_filter.2 ⟨hs j hj1, ?_⟩
      rw [Bool.not_eq_true', ← Bool.not_eq_true, List.contains_iff_mem]
      intro hm
      obtain ⟨r, hr, e⟩ := List.mem_map.1 hm
      have hr := List.mem_range.1 hr
      have := (hA j x).1 hj2 r hr
      rw [← e] at this
      exact this (hP r hr).2)
    omega
  have hH := hall_regular (A := A) (n := n) (d := n - s.length) (J := List.range n) (by omega) hdeg hreg
  obtain ⟨L, l1, l2, l3⟩ := hall n (List.range n) A (n - s.length) List.length_range List.nodup_range hH hdeg (by rw [List.length_range]; omega)
  have hget : ∀ (f : Nat → Nat) j, j < n → ((List.range n).map f).getD j 0 = f j := fun f j hj => by simp [List.getD_eq_getElem?_getD, hj]
  have hnd : (L.map fun f => (List.range n).map f).Nodup := List.pairwise_map.2 (l3.imp fun {f g} hfg e => by
    obtain ⟨j, hj, hne⟩ := hfg
    have hj := List.mem_range.1 hj
    have e1 := hget f j hj
    have e : (List.range n).map f = (List.range n).map g := e
    rw [e, hget g j hj] at e1
    exact hne e1.symm)
  have := nodup_sub hnd (m := rwS n s) (fun l hl => by
    obtain ⟨f, hf, rfl⟩ := List.mem_map.1 hl
    obtain ⟨f1, f2⟩ := l2 f hf
    refine (mem_rwS _).2 ⟨by simp, fun i hi => ?_, fun i j hij hj => ?_, fun r c hr hc => ?_⟩
    · rw [hget f i hi]; exact (f1 i (List.mem_range.2 hi)).1
    · rw [hget f i (by omega), hget f j hj]; exact f2 i (List.mem_range.2 (by omega)) j (List.mem_range.2 hj) (by omega)
    · rw [hget f c hc]; exact (hA c (f c)).1 (f1 c (List.mem_range.2 hc)).2 r hr)
  rw [List.length_map] at this
  omega
theorem zs_gAt (s : List (List Int)) (l : List Nat) (r c : Nat) (hr : r ≤ s.length) : gAt (s ++ [zs l]) r c = if r < s.length then gAt s r c else (l.getD c 0 : Int) := by
  unfold gAt
  by_cases h : r < s.length
  · rw [if_pos h]
    have e : (s ++ [zs l]).getD r [] = s.getD r [] := by rw [List.getD_eq_getElem?_getD, List.getElem?_append_left h, ← List.getD_eq_getElem?_getD]
    rw [e]
  · obtain rfl : r = s.length := by omega
    rw [if_neg h]
    have e : (s ++ [zs l]).getD s.length [] = zs l := by rw [List.getD_eq_getElem?_getD, List.getElem?_append_right (Nat.le_refl _)]; simp
    rw [e]
    exact zs_get l c
theorem start_more {n : Nat} {s : List (List Int)} {l : List Nat} (h : StartP n s) (hk : s.length < n) (hl : IsRow n s l) : StartP n (s ++ [zs l]) := by
  have hlen : (s ++ [zs l]).length = s.length + 1 := by simp
  refine ⟨h.n1, h.n7, by omega, fun r hr => ?_, fun r c hr hc => ?_, fun r c d hr hc hd hcd => ?_, fun r t c hr ht hc hrt => ?_⟩
  · rw [hlen] at hr
    rcases Nat.lt_or_ge r s.length with h1 | h1
    · rw [List.getD_eq_getElem?_getD, List.getElem?_append_left h1, ← List.getD_eq_getElem?_getD]; exact h.row r h1
    · obtain rfl : r = s.length := by omega
      rw [List.getD_eq_getElem?_getD, List.getElem?_append_right (Nat.le_refl _)]
      simp [zs_len, hl.1]
  · rw [hlen] at hr
    rw [zs_gAt s l r c (by omega)]
    split
    · exact h.lo r c (by assumption) hc
    · have := hl.2.1 c hc; omega
  · rw [hlen] at hr
    rw [zs_gAt s l r c (by omega), zs_gAt s l r d (by omega)]
    split
    · exact h.rows r c d (by assumption) hc hd hcd
    · intro e
      rcases Nat.lt_or_ge c d with h1 | h1
      · exact hl.2.2.1 c d h1 hd (by omega)
      · exact hl.2.2.1 d c (by omega) hc (by omega)
  · rw [hlen] at hr ht
    rw [zs_gAt s l r c (by omega), zs_gAt s l t c (by omega)]
    by_cases h1 : r < s.length
    · by_cases h2 : t < s.length
      · rw [if_pos h1, if_pos h2]; exact h.cols r t c h1 h2 hc hrt
      · rw [if_pos h1, if_neg h2]; exact hl.2.2.2 r c h1 hc
    · by_cases h2 : t < s.length
      · rw [if_neg h1, if_pos h2]; exact fun e => hl.2.2.2 t c h2 hc e.symm
      · omega
/-! ### the program's count, by bits -/
def opM (n : Nat) (s : List (List Int)) (c : Nat) : Nat → Nat
  | 0 => 2 ^ n - 1
  | R + 1 => nd (opM n s c R) (2 ^ (gAt s R c).toNat)
theorem opM_le (n : Nat) (s : List (List Int)) (c : Nat) : ∀ R, opM n s c R ≤ 2 ^ n - 1
  | 0 => Nat.le_refl _
  | R + 1 => Nat.le_trans (nd_le _ _) (opM_le n s c R)
theorem bit_opM (n : Nat) (s : List (List Int)) (c x : Nat) : ∀ R, (opM n s c R).testBit x = true ↔ x < n ∧ ∀ r, r < R → (gAt s r c).toNat ≠ x
  | 0 => by
    unfold opM
    rw [Nat.testBit_two_pow_sub_one, decide_eq_true_eq]
    exact ⟨fun h => ⟨h, fun r hr => by omega⟩, fun h => h.1⟩
  | R + 1 => by
    unfold opM
    rw [bit_nd, Bool.and_eq_true, bit_opM n s c x R, Bool.not_eq_true', Nat.testBit_two_pow, decide_eq_false_iff_not]
    constructor
    · rintro ⟨⟨h1, h2⟩, h3⟩
      refine ⟨h1, fun r hr => ?_⟩
      by_cases e : r = R
      · rw [e]; exact h3
      · exact h2 r (by omega)
    · rintro ⟨h1, h2⟩
      exact ⟨⟨h1, fun r hr => h2 r (by omega)⟩, h2 R (by omega)⟩
def wayF (n : Nat) (op : Nat → Nat) : Nat → Nat → Nat
  | 0, _ => 1
  | k + 1, used => ((bitsOf (nd (op (n - (k + 1))) used)).map fun x => wayF n op k (used ||| 2 ^ x)).sum
def opS (n : Nat) (s : List (List Int)) (c : Nat) : Nat := opM n s c s.length
theorem bits_row {n : Nat} {s : List (List Int)} (h : StartP n s) {l : List Nat} (hl : l.length < n) : bitsOf (nd (opS n s l.length) (colsM l)) = (List.range n).filter (okR s l) := by
  unfold bitsOf
  rw [← filter_upto h.n7 (okR s l)]
  refine List.filter_congr fun x _ => ?_
  rw [bit_nd, Bool.eq_iff_iff, Bool.and_eq_true, Bool.and_eq_true, decide_eq_true_eq, okR_iff, Bool.not_eq_true', ← Bool.not_eq_true]
  unfold opS colsM
  rw [bit_opM, bit_orN]
  simp only [Nat.testBit_two_pow, decide_eq_true_eq]
  constructor
  · rintro ⟨⟨h1, h2⟩, h3⟩
    refine ⟨h1, fun i hi e => h3 ⟨i, hi, e⟩, fun r hr e => h2 r hr (by rw [e]; simp)⟩
  · rintro ⟨h1, h2, h3⟩
    refine ⟨⟨h1, fun r hr e => h3 r hr ?_⟩, fun ⟨i, hi, e⟩ => h2 i hi e⟩
    have := (h.lo r l.length hr hl).1
    omega
theorem way_rows {n : Nat} {s : List (List Int)} (h : StartP n s) : ∀ (k : Nat) (l : List Nat), l.length + k = n → wayF n (opS n s) k (colsM l) = (rowsF n s k l).length
  | 0, l, _ => rfl
  | k + 1, l, hl => by
    unfold wayF rowsF
    rw [show n - (k + 1) = l.length by omega, bits_row h (by omega), List.length_flatMap]
    have e : ∀ X : List Nat, ((X.filter (okR s l)).map fun x => wayF n (opS n s) k (colsM l ||| 2 ^ x)).sum = (X.map fun x => (if okR s l x = true then rowsF n s k (l ++ [x]) else []).length).sum := by
      intro X
      induction X with
      | nil => rfl
      | cons x X ih =>
        rw [List.filter_cons]
        cases hok : okR s l x
        · simp [hok, ih]
        · simp only [if_true, List.map_cons, List.sum_cons, hok, ih]
          rw [← colsM_app, way_rows h k (l ++ [x]) (by simp; omega)]
    exact e _
theorem wayF_le (n : Nat) (op : Nat → Nat) (h7 : ∀ m, (bitsOf m).length ≤ 7) : ∀ k used, wayF n op k used ≤ 7 ^ k
  | 0, _ => by simp [wayF]
  | k + 1, used => by
    unfold wayF
    have key : ∀ X : List Nat, (X.map fun x => wayF n op k (used ||| 2 ^ x)).sum ≤ X.length * 7 ^ k := by
      intro X
      induction X with
      | nil => simp
      | cons x X ih =>
        rw [List.map_cons, List.sum_cons, List.length_cons, Nat.succ_mul]
        have := wayF_le n op h7 k (used ||| 2 ^ x)
        omega
    refine Nat.le_trans (key _) ?_
    rw [Nat.pow_succ, Nat.mul_comm]
    exact Nat.mul_le_mul_left _ (h7 _)
theorem bitsOf_len (m : Nat) : (bitsOf m).length ≤ 7 := by
  unfold bitsOf
  exact Nat.le_trans (List.length_filter_le _ _) (by simp)
/-- The first row goes on with the first crop with which there is one. -/
theorem rows_first {n : Nat} {s : List (List Int)} (h : StartP n s) {k : Nat} {l : List Nat} (hl : l.length + (k + 1) = n) {pre suf : List Nat} {x : Nat} (hb : bitsOf (nd (opS n s l.length) (colsM l)) = pre ++ x :: suf) (hp : ∀ y ∈ pre, wayF n (opS n s) k (colsM l ||| 2 ^ y) = 0) (hx : 0 < wayF n (opS n s) k (colsM l ||| 2 ^ x)) : (rowsF n s (k + 1) l).head? = (rowsF n s k (l ++ [x])).head? ∧ rowsF n s k (l ++ [x]) ≠ [] ∧ x < n ∧ okR s l x = true := by
  rw [bits_row h (by omega)] at hb
  have hw : ∀ y, wayF n (opS n s) k (colsM l ||| 2 ^ y) = (rowsF n s k (l ++ [y])).length := fun y => by rw [← colsM_app, way_rows h k (l ++ [y]) (by simp; omega)]
  rw [hw] at hx
  have hne : rowsF n s k (l ++ [x]) ≠ [] := fun e => by rw [e] at hx; simp at hx
  have hxm : x ∈ (List.range n).filter (okR s l) := by rw [hb]; simp
  obtain ⟨x1, x2⟩ := List.mem_filter.1 hxm
  refine ⟨?_, hne, List.mem_range.1 x1, x2⟩
  have e : rowsF n s (k + 1) l = ((List.range n).filter (okR s l)).flatMap fun x => rowsF n s k (l ++ [x]) := by
    show ((List.range n).flatMap fun x => if okR s l x = true then rowsF n s k (l ++ [x]) else []) = _
    induction List.range n with
    | nil => rfl
    | cons y Y ih =>
      rw [List.flatMap_cons, ih, List.filter_cons]
      cases hok : okR s l y
      · simp
      · simp
  rw [e, hb, List.flatMap_append, List.flatMap_cons]
  have hpre : (pre.flatMap fun x => rowsF n s k (l ++ [x])) = [] := by
    rw [List.flatMap_eq_nil_iff]
    intro y hy
    have := hp y hy
    rw [hw] at this
    exact List.eq_nil_of_length_eq_zero this
  rw [hpre, List.nil_append]
  cases hr : rowsF n s k (l ++ [x]) with
  | nil => exact absurd hr hne
  | cons a t => rfl
theorem rows_some {n : Nat} {s : List (List Int)} (h : StartP n s) {k : Nat} {l : List Nat} (hl : l.length + (k + 1) = n) (hne : rowsF n s (k + 1) l ≠ []) : ∃ x ∈ bitsOf (nd (opS n s l.length) (colsM l)), 0 < wayF n (opS n s) k (colsM l ||| 2 ^ x) := by
  have h1 : 0 < wayF n (opS n s) (k + 1) (colsM l) := by
    rw [way_rows h (k + 1) l hl]
    exact List.length_pos_iff.2 hne
  unfold wayF at h1
  rw [show n - (k + 1) = l.length by omega] at h1
  generalize bitsOf (nd (opS n s l.length) (colsM l)) = X at h1
  induction X with
  | nil => simp at h1
  | cons x X ih =>
    rw [List.map_cons, List.sum_cons] at h1
    by_cases hx : 0 < wayF n (opS n s) k (colsM l ||| 2 ^ x)
    · exact ⟨x, by simp, hx⟩
    · obtain ⟨y, hy, h2⟩ := ih (by omega)
      exact ⟨y, by simp [hy], h2⟩
end Go.Proofs.YtiodednhadnekaaDoor
