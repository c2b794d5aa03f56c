/- Plain laws: the levels of weights; the dearest sharing is the dearest fair one, and the lexicographically least of these. No condition. -/
import Derived.Test.YtpehhbiodmgjeaaPlain12
namespace Go.Proofs.Ytpehhbiodmgjeaa

/-! ### sorted -/
def heavier (ws : List Int) (a b : Int) : Prop := wv ws b < wv ws a ∨ (wv ws a = wv ws b ∧ b < a)
theorem sift_sorted (ws : List Int) (x : Int) (d : Nat) : ∀ S : List Int, S.length = d → S.Pairwise (heavier ws) → (∀ y ∈ S, x < y) → (sift ws (S ++ [x]) d).Pairwise (heavier ws) := by
  induction d with
  | zero =>
    intro S hS _ _
    have : S = [] := List.eq_nil_of_length_eq_zero hS
    subst this
    simp [sift]
  | succ d ih =>
    intro S hS hp hx
    obtain ⟨S', y, rfl⟩ : ∃ S' y, S = S' ++ [y] := by
      exact ⟨S.dropLast, S.getLast (fun h => by rw [h] at hS; cases hS), (List.dropLast_concat_getLast _).symm⟩
    have hl : S'.length = d := by simpa using hS
    have e1 : (S' ++ [y] ++ [x]).getD d 0 = y := by
      rw [List.append_assoc, List.getD_eq_getElem?_getD, List.getElem?_append_right (by omega), hl]; simp
    have e2 : (S' ++ [y] ++ [x]).getD (d + 1) 0 = x := by
      rw [List.getD_eq_getElem?_getD, List.getElem?_append_right (by simp; omega)]; simp [hl]
    have e3 : swp (S' ++ [y] ++ [x]) d = S' ++ [x] ++ [y] := by
      unfold swp
      rw [e1, e2, ← hl]
      simp
    rw [List.pairwise_append] at hp
    obtain ⟨hp1, _, hp3⟩ := hp
    unfold sift
    rw [e1, e2, e3]
    split
    · rename_i hlt
      rw [sift_app ws (S' ++ [x]) [y] d (by simp; omega), List.pairwise_append]
      refine ⟨ih S' hl hp1 (fun z hz => hx z (List.mem_append_left _ hz)), List.pairwise_singleton _ _, fun z hz b hb => ?_⟩
      rw [List.mem_singleton] at hb
      subst hb
      have hz' := (sift_perm ws (S' ++ [x]) d (by simp; omega)).mem_iff.1 hz
      rw [List.mem_append, List.mem_singleton] at hz'
      rcases hz' with hz' | rfl
      · exact hp3 z hz' b (List.mem_singleton.2 rfl)
      · exact .inl hlt
    · rename_i hge
      rw [List.pairwise_append]
      refine ⟨List.pairwise_append.2 ⟨hp1, List.pairwise_singleton _ _, hp3⟩, List.pairwise_singleton _ _, fun z hz b hb => ?_⟩
      rw [List.mem_singleton] at hb
      subst hb
      have hzx := hx z hz
      rw [List.mem_append, List.mem_singleton] at hz
      have : wv ws y ≤ wv ws z := by
        rcases hz with hz | rfl
        · rcases hp3 z hz y (List.mem_singleton.2 rfl) with h | h <;> omega
        · exact Int.le_refl _
      unfold heavier
      omega
theorem ordR_sorted (ws : List Int) (n t : Nat) (ht : t ≤ n) : (ordR ws n t).Pairwise (heavier ws) := by
  induction t with
  | zero => exact List.Pairwise.nil
  | succ t ih =>
    refine sift_sorted ws _ t _ (ordR_len ws n t) (ih (by omega)) fun y hy => ?_
    have := (revL_perm ws n t).mem_iff.1 hy
    obtain ⟨i, hi, rfl⟩ := List.mem_map.1 this
    rw [List.mem_range] at hi
    omega
def ordN (ws : List Int) (n : Nat) : List Nat := (ordR ws n n).map Int.toNat
def heavN (ws : List Int) (a b : Nat) : Prop := ws.getD b 0 < ws.getD a 0 ∨ (ws.getD a 0 = ws.getD b 0 ∧ b < a)
theorem ordN_sorted (ws : List Int) (n : Nat) : (ordN ws n).Pairwise (heavN ws) := by
  unfold ordN
  rw [List.pairwise_map]
  refine List.Pairwise.imp_of_mem (fun {a b} ha hb h => ?_) (ordR_sorted ws n n (Nat.le_refl _))
  have h1 := ordR_in ws n n (Nat.le_refl _) a ha
  have h2 := ordR_in ws n n (Nat.le_refl _) b hb
  rcases h with h | ⟨h3, h4⟩
  · exact .inl h
  · exact .inr ⟨h3, by omega⟩
theorem ordN_ord (ws : List Int) (n : Nat) (hn : n ≤ 6) : Ord n (ordN ws n) := by
  refine ⟨by simp [ordN, ordR_len], fun j hj => ?_, ordR_nodup ws n hn⟩
  have h := (ordR_in ws n n (Nat.le_refl _)).at_ j (by rw [ordR_len]; exact hj)
  have e : (ordN ws n).getD j 0 = ((ordR ws n n).getD j 0).toNat := by
    have : j < (ordR ws n n).length := by rw [ordR_len]; exact hj
    simp [ordN, List.getD_eq_getElem?_getD, this]
  rw [e]
  omega

theorem xor_split (U M : Nat) (h : ∀ j, M.testBit j = true → U.testBit j = true) : U = M ||| (U ^^^ M) ∧ M &&& (U ^^^ M) = 0 := by
  constructor
  · apply Nat.eq_of_testBit_eq
    intro j
    have := h j
    simp only [Nat.testBit_or, Nat.testBit_xor]
    cases hu : U.testBit j <;> cases hm : M.testBit j <;> simp_all
  · apply Nat.eq_of_testBit_eq
    intro j
    have := h j
    simp only [Nat.testBit_and, Nat.testBit_xor, Nat.zero_testBit]
    cases hu : U.testBit j <;> cases hm : M.testBit j <;> simp_all
theorem xor_bit (U M : Nat) (h : ∀ j, M.testBit j = true → U.testBit j = true) (j : Nat) (hj : (U ^^^ M).testBit j = true) : U.testBit j = true ∧ M.testBit j = false := by
  rw [Nat.testBit_xor] at hj
  have := h j
  cases hu : U.testBit j <;> cases hm : M.testBit j <;> simp_all
/-! ### levels -/
theorem grpTo_bit (ws : List Int) (t : Int) (k j : Nat) : (grpTo ws t k).testBit j = (decide (j < k) && decide (t ≤ ws.getD j 0)) := by
  induction k with
  | zero => simp [grpTo]
  | succ k ih =>
    have e : grpTo ws t (k + 1) = if t ≤ ws.getD k 0 then grpTo ws t k ||| 2 ^ k else grpTo ws t k := rfl
    rw [e, Bool.eq_iff_iff]
    split
    · rename_i h
      rw [Nat.testBit_or, ih, Nat.testBit_two_pow]
      simp only [Bool.or_eq_true, Bool.and_eq_true, decide_eq_true_eq]
      constructor
      · rintro (⟨h1, h2⟩ | rfl)
        · exact ⟨by omega, h2⟩
        · exact ⟨by omega, h⟩
      · rintro ⟨h1, h2⟩
        by_cases hj : k = j
        · exact .inr hj
        · exact .inl ⟨by omega, h2⟩
    · rename_i h
      rw [ih]
      simp only [Bool.and_eq_true, decide_eq_true_eq]
      constructor
      · rintro ⟨h1, h2⟩; exact ⟨by omega, h2⟩
      · rintro ⟨h1, h2⟩
        refine ⟨?_, h2⟩
        by_cases hj : j = k
        · subst hj; exact absurd h2 h
        · omega
theorem mem_while {w : Nat → Int} {t : Int} (l : List Nat) (hp : l.Pairwise fun a b => w b ≤ w a) (x : Nat) (hx : x ∈ l) (ht : t ≤ w x) : x ∈ l.takeWhile fun j => decide (t ≤ w j) := by
  induction l with
  | nil => cases hx
  | cons a l ih =>
    rw [List.pairwise_cons] at hp
    have ha : t ≤ w a := by
      rcases List.mem_cons.1 hx with rfl | hx
      · exact ht
      · have := hp.1 x hx; omega
    rw [List.takeWhile_cons, if_pos (by simpa using ha)]
    rcases List.mem_cons.1 hx with rfl | hx
    · exact List.mem_cons_self ..
    · exact List.mem_cons_of_mem _ (ih hp.2 hx)
theorem level_pre (ws : List Int) (n : Nat) (hn : n ≤ 6) (xs : List Int) (t : Int) : ∃ k, k ≤ n ∧ (gTo n xs (ordN ws n) k).2 = grpTo ws t n := by
  have o := ordN_ord ws n hn
  have hp : ((ordN ws n).takeWhile fun j => decide (t ≤ ws.getD j 0)) <+: ordN ws n := List.takeWhile_prefix _
  refine ⟨((ordN ws n).takeWhile fun j => decide (t ≤ ws.getD j 0)).length, by have := hp.length_le; rw [o.len] at this; exact this, ?_⟩
  apply Nat.eq_of_testBit_eq
  intro j
  rw [mask_bit, ← List.prefix_iff_eq_take.1 hp, grpTo_bit, Bool.eq_iff_iff]
  simp only [Bool.and_eq_true, decide_eq_true_eq]
  constructor
  · intro h
    have h1 := List.all_eq_true.1 List.all_takeWhile _ h
    have h2 := hp.subset h
    obtain ⟨i, hi, rfl⟩ := List.getElem_of_mem h2
    have := o.lt i (by rw [← o.len]; exact hi)
    rw [List.getD_eq_getElem?_getD, List.getElem?_eq_getElem hi, Option.getD_some] at this
    exact ⟨this, by simpa using h1⟩
  · rintro ⟨h1, h2⟩
    refine mem_while (w := fun j => ws.getD j 0) _ ((ordN_sorted ws n).imp fun h => ?_) j (o.mem j h1) h2
    rcases h with h | h <;> omega

/-- The sum over the first T levels of what they pay. -/
def lay (l ws : List Int) (n k : Nat) : Nat → Int
  | 0 => 0
  | T + 1 => lay l ws n k T + payTo l (grpTo ws ((T : Int) + 1) n) k
theorem lay_k (l ws : List Int) (n k : Nat) (hk : k < n) (hw : 0 ≤ ws.getD k 0) (T : Nat) : lay l ws n (k + 1) T = lay l ws n k T + l.getD k 0 * (if ws.getD k 0 ≤ T then ws.getD k 0 else T) := by
  induction T with
  | zero =>
    simp only [lay]
    by_cases h : ws.getD k 0 ≤ (0 : Nat)
    · rw [if_pos h, show ws.getD k 0 = 0 by omega]; simp
    · rw [if_neg h]; simp
  | succ T ih =>
    have e1 : lay l ws n (k + 1) (T + 1) = lay l ws n (k + 1) T + payTo l (grpTo ws ((T : Int) + 1) n) (k + 1) := rfl
    have e2 : lay l ws n k (T + 1) = lay l ws n k T + payTo l (grpTo ws ((T : Int) + 1) n) k := rfl
    have e3 : payTo l (grpTo ws ((T : Int) + 1) n) (k + 1) = payTo l (grpTo ws ((T : Int) + 1) n) k + if (grpTo ws ((T : Int) + 1) n).testBit k then l.getD k 0 else 0 := rfl
    rw [e1, e2, e3, ih, grpTo_bit, decide_eq_true hk, Bool.true_and]
    generalize ws.getD k 0 = w at *
    generalize l.getD k 0 = x at *
    by_cases h1 : (T : Int) + 1 ≤ w
    · rw [show (if decide ((T : Int) + 1 ≤ w) = true then x else 0) = x from if_pos (by simpa using h1)]
      have h2 : (if w ≤ (T : Int) then w else (T : Int)) = T := by rw [if_neg (by omega)]
      have h3 : (if w ≤ ((T + 1 : Nat) : Int) then w else ((T + 1 : Nat) : Int)) = T + 1 := by
        by_cases h : w ≤ ((T + 1 : Nat) : Int)
        · rw [if_pos h]; omega
        · rw [if_neg h]; omega
      rw [h2, h3, Int.mul_add, Int.mul_one]
      omega
    · rw [show (if decide ((T : Int) + 1 ≤ w) = true then x else 0) = 0 from if_neg (by simpa using h1)]
      have h2 : (if w ≤ (T : Int) then w else (T : Int)) = w := by rw [if_pos (by omega)]
      have h3 : (if w ≤ ((T + 1 : Nat) : Int) then w else ((T + 1 : Nat) : Int)) = w := by rw [if_pos (by omega)]
      rw [h2, h3]
      omega
theorem lay_dot (l ws : List Int) (n : Nat) (hw : ∀ j, 0 ≤ ws.getD j 0 ∧ ws.getD j 0 ≤ 1000) (k : Nat) (hk : k ≤ n) : lay l ws n k 1000 = dotTo l ws k := by
  induction k with
  | zero =>
    have : ∀ T, lay l ws n 0 T = 0 := by
      intro T
      induction T with
      | zero => rfl
      | succ T ih => simp [lay, ih, payTo]
    exact this 1000
  | succ k ih =>
    have h := hw k
    rw [lay_k l ws n k (by omega) h.1, ih (by omega), if_pos (by omega)]
    rfl
section
variable {n : Nat} {xs ws l : List Int}
theorem lay_le (hl : l.length = n) (hwl : ws.length = n) (hle : ∀ a, a < 2 ^ n → pay l a ≤ xs.getD a 0) (T : Nat) : lay l ws n n T ≤ fillsTo xs ws T := by
  induction T with
  | zero => exact Int.le_refl _
  | succ T ih =>
    have e1 : lay l ws n n (T + 1) = lay l ws n n T + payTo l (grpTo ws ((T : Int) + 1) n) n := rfl
    have e2 : fillsTo xs ws (T + 1) = fillsTo xs ws T + xs.getD (grpTo ws ((T : Int) + 1) ws.length) 0 := rfl
    have h := hle (grpTo ws ((T : Int) + 1) n) (grpTo_lt ws _ n)
    unfold pay at h
    rw [hl] at h
    rw [e1, e2, hwl]
    omega
theorem lay_tight (hl : l.length = n) (hwl : ws.length = n) (hle : ∀ a, a < 2 ^ n → pay l a ≤ xs.getD a 0) (T : Nat) (h : fillsTo xs ws T ≤ lay l ws n n T) (t : Nat) (ht : t < T) : pay l (grpTo ws ((t : Int) + 1) n) = xs.getD (grpTo ws ((t : Int) + 1) n) 0 := by
  induction T with
  | zero => omega
  | succ T ih =>
    have e1 : lay l ws n n (T + 1) = lay l ws n n T + payTo l (grpTo ws ((T : Int) + 1) n) n := rfl
    have e2 : fillsTo xs ws (T + 1) = fillsTo xs ws T + xs.getD (grpTo ws ((T : Int) + 1) ws.length) 0 := rfl
    have h1 := hle (grpTo ws ((T : Int) + 1) n) (grpTo_lt ws _ n)
    have h2 := lay_le (ws := ws) hl hwl hle T
    have e3 : pay l (grpTo ws ((T : Int) + 1) n) = payTo l (grpTo ws ((T : Int) + 1) n) n := by unfold pay; rw [hl]
    rw [e1, e2, hwl] at h
    by_cases htT : t = T
    · subst htT; omega
    · exact ih (by omega) (by omega)
theorem pay_single (l : List Int) (i : Nat) (hi : i < l.length) : pay l (2 ^ i) = l.getD i 0 := by
  have : ∀ k, payTo l (2 ^ i) k = if i < k then l.getD i 0 else 0 := by
    intro k
    induction k with
    | zero => simp [payTo]
    | succ k ih =>
      have e : payTo l (2 ^ i) (k + 1) = payTo l (2 ^ i) k + if (2 ^ i).testBit k then l.getD k 0 else 0 := rfl
      rw [e, ih, Nat.testBit_two_pow]
      by_cases h : i = k
      · subst h; simp
      · by_cases h1 : i < k
        · simp [h, h1, show i < k + 1 by omega]
        · simp [h, h1, show ¬ i < k + 1 by omega]
  unfold pay
  rw [this, if_pos hi]
theorem pay_more (l : List Int) (m i : Nat) (hi : i < l.length) (hm : m.testBit i = false) : pay l (m ||| 2 ^ i) = pay l m + l.getD i 0 := by
  have h := pay_mod l m (2 ^ i)
  have e : m &&& 2 ^ i = 0 := by
    apply Nat.eq_of_testBit_eq
    intro j
    rw [Nat.testBit_and, Nat.testBit_two_pow, Nat.zero_testBit]
    by_cases hij : i = j
    · subst hij; rw [hm]; rfl
    · simp [hij]
  rw [e, pay_zero, pay_single l i hi] at h
  omega
theorem payTo_agree (l p : List Int) (b k : Nat) (h : ∀ j, j < k → b.testBit j = true → l.getD j 0 = p.getD j 0) : payTo l b k = payTo p b k := by
  induction k with
  | zero => rfl
  | succ k ih =>
    have e1 : payTo l b (k + 1) = payTo l b k + if b.testBit k then l.getD k 0 else 0 := rfl
    have e2 : payTo p b (k + 1) = payTo p b k + if b.testBit k then p.getD k 0 else 0 := rfl
    rw [e1, e2, ih fun j hj => h j (by omega)]
    cases hb : b.testBit k
    · rfl
    · rw [h k (by omega) hb]
variable (g : Good n xs) (hwl : ws.length = n) (hw : ∀ j, 0 ≤ ws.getD j 0 ∧ ws.getD j 0 ≤ 1000)
include g
theorem dear_fair : isFair xs (dearL n xs ws) = true := greedy_fair g (ordN_ord ws n g.n6)
omit g in
theorem dear_len : (dearL n xs ws).length = n := greedyL_len _ _ _
theorem dear_level (t : Int) : pay (dearL n xs ws) (grpTo ws t n) = xs.getD (grpTo ws t n) 0 := by
  have o := ordN_ord ws n g.n6
  obtain ⟨k, hk, e⟩ := level_pre ws n g.n6 xs t
  have := greedy_pre g o k n hk (Nat.le_refl _)
  rw [e] at this
  show pay (greedyL n xs (ordN ws n)) _ = _
  rw [greedyL_eq o]
  exact this
include hwl hw
theorem dear_dot : dotTo (dearL n xs ws) ws n = fills xs ws := by
  rw [← lay_dot _ ws n hw n (Nat.le_refl _)]
  have : ∀ T, lay (dearL n xs ws) ws n n T = fillsTo xs ws T := by
    intro T
    induction T with
    | zero => rfl
    | succ T ih =>
      have h := dear_level (ws := ws) g ((T : Int) + 1)
      unfold pay at h
      rw [dear_len] at h
      simp only [lay, fillsTo, ih, h, hwl]
  exact this 1000
theorem dot_le (hl : l.length = n) (hf : isFair xs l = true) : dotTo l ws n ≤ fills xs ws := by
  rw [← lay_dot l ws n hw n (Nat.le_refl _)]
  exact lay_le hl hwl (isFair_facts g hf).1 1000
theorem dear_lex (hl : l.length = n) (hf : isFair xs l = true) (hd : dotTo l ws n = fills xs ws) : bfr l (dearL n xs ws) = false := by
  obtain ⟨f1, f2⟩ := isFair_facts g hf
  have o := ordN_ord ws n g.n6
  have tight : ∀ t : Nat, t < 1000 → pay l (grpTo ws ((t : Int) + 1) n) = xs.getD (grpTo ws ((t : Int) + 1) n) 0 := fun t ht =>
    lay_tight hl hwl f1 1000 (by rw [lay_dot l ws n hw n (Nat.le_refl _), hd]; exact Int.le_refl _) t ht
  refine bfr_false fun i hi _ hs => ?_
  rw [hl] at hi
  obtain ⟨k, hk, hki⟩ := List.getElem_of_mem (o.mem i hi)
  rw [o.len] at hk
  have hki' : (ordN ws n).getD k 0 = i := by
    rw [List.getD_eq_getElem?_getD, List.getElem?_eq_getElem (by rw [o.len]; exact hk), Option.getD_some, hki]
  -- the level of i
  obtain ⟨U, hU1, hU2, hU3⟩ : ∃ U, (∀ j, U.testBit j = (decide (j < n) && decide (ws.getD i 0 ≤ ws.getD j 0))) ∧ pay l U = xs.getD U 0 ∧ pay (dearL n xs ws) U = xs.getD U 0 := by
    by_cases h0 : 1 ≤ ws.getD i 0
    · have e : ws.getD i 0 = (((ws.getD i 0).toNat - 1 : Nat) : Int) + 1 := by omega
      refine ⟨grpTo ws (ws.getD i 0) n, fun j => grpTo_bit ws _ n j, ?_, dear_level g _⟩
      have := tight ((ws.getD i 0).toNat - 1) (by have := hw i; omega)
      rw [← e] at this
      exact this
    · refine ⟨tail n 0, fun j => ?_, f2, (isFair_facts g (dear_fair g)).2⟩
      by_cases h7 : j < 7
      · rw [tail_bits n g.n6 0 (by omega) j h7]
        have := hw j
        have h1 : ws.getD i 0 ≤ ws.getD j 0 := by omega
        rw [decide_eq_true h1]; simp
      · have h1 : tail n 0 < 2 ^ j := Nat.lt_of_lt_of_le (tail_lt n g.n6 0 (by omega)) (Nat.pow_le_pow_right (by omega) (by have := g.n6; omega))
        rw [Nat.testBit_lt_two_pow h1, decide_eq_false (by have := g.n6; omega)]; rfl
  have pw := List.pairwise_iff_getElem.1 (ordN_sorted ws n)
  have hm1 : (gTo n xs (ordN ws n) (k + 1)).2 = (gTo n xs (ordN ws n) k).2 ||| 2 ^ i := by
    rw [gTo_succ n xs _ k (by rw [o.len]; exact hk), hki']; rfl
  have hnb : (gTo n xs (ordN ws n) k).2.testBit i = false := by
    rw [mask_bit]
    have := o.new k hk
    rw [hki'] at this
    exact decide_eq_false this
  have sub : ∀ j, (gTo n xs (ordN ws n) (k + 1)).2.testBit j = true → U.testBit j = true := fun j hj => by
    rw [mask_bit, decide_eq_true_eq] at hj
    obtain ⟨q, hq, hqj⟩ := List.getElem_of_mem hj
    rw [List.length_take, o.len] at hq
    rw [List.getElem_take] at hqj
    have hjn : j < n := by
      have := o.lt q (by omega)
      rw [List.getD_eq_getElem?_getD, List.getElem?_eq_getElem (by rw [o.len]; omega), Option.getD_some, hqj] at this
      exact this
    rw [hU1, decide_eq_true hjn, Bool.true_and, decide_eq_true_eq]
    by_cases hqk : q = k
    · subst hqk; rw [← hki, hqj]; exact Int.le_refl _
    · have := pw q k (by rw [o.len]; omega) (by rw [o.len]; exact hk) (by omega)
      rw [hqj, hki] at this
      rcases this with h | h <;> omega
  have oth : ∀ j, U.testBit j = true → (gTo n xs (ordN ws n) (k + 1)).2.testBit j = false → j < i := fun j h1 h2 => by
    rw [hU1, Bool.and_eq_true, decide_eq_true_eq, decide_eq_true_eq] at h1
    rw [mask_bit, decide_eq_false_iff_not] at h2
    obtain ⟨q, hq, hqj⟩ := List.getElem_of_mem (o.mem j h1.1)
    have hqk : k < q := by
      rcases Nat.lt_or_ge k q with h | h
      · exact h
      · exfalso
        apply h2
        rw [List.mem_take_iff_getElem]
        exact ⟨q, by rw [o.len] at hq ⊢; omega, hqj⟩
    have := pw k q (by rw [o.len]; exact hk) hq hqk
    rw [hqj, hki] at this
    rcases this with h | h <;> omega
  have hpk := greedy_pre g o k n (by omega) (Nat.le_refl _)
  have hpk1 := greedy_pre g o (k + 1) n (by omega) (Nat.le_refl _)
  rw [← greedyL_eq o] at hpk hpk1
  have hmk := o.mlt (xs := xs) k (by omega)
  have hlm := f1 _ hmk
  rw [hm1] at hpk1 sub oth
  generalize (gTo n xs (ordN ws n) k).2 = m at *
  have hD := xor_split U (m ||| 2 ^ i) sub
  have hag : pay l (U ^^^ (m ||| 2 ^ i)) = pay (dearL n xs ws) (U ^^^ (m ||| 2 ^ i)) := by
    unfold pay
    rw [hl, dear_len]
    exact payTo_agree _ _ _ _ fun j _ hb => hs j (oth j (xor_bit U _ sub j hb).1 (xor_bit U _ sub j hb).2)
  have a1 := pay_mod l (m ||| 2 ^ i) (U ^^^ (m ||| 2 ^ i))
  have a2 := pay_mod (dearL n xs ws) (m ||| 2 ^ i) (U ^^^ (m ||| 2 ^ i))
  rw [← hD.1, hD.2, pay_zero] at a1 a2
  have b1 := pay_more l m i (by rw [hl]; exact hi) hnb
  have b2 := pay_more (dearL n xs ws) m i (by rw [dear_len]; exact hi) hnb
  have e1 : pay (dearL n xs ws) m = xs.getD m 0 := hpk
  have e2 : pay (dearL n xs ws) (m ||| 2 ^ i) = xs.getD (m ||| 2 ^ i) 0 := hpk1
  omega
end
theorem dotTo_add (l a b s : List Int) (h : ∀ j, s.getD j 0 = a.getD j 0 + b.getD j 0) (k : Nat) : dotTo l s k = dotTo l a k + dotTo l b k := by
  induction k with
  | zero => rfl
  | succ k ih =>
    simp only [dotTo, ih, h k, Int.mul_add]
    omega
theorem fills_ones {n : Nat} {xs : List Int} (g : Good n xs) (x : Nat) (hx : x < 2 ^ n) (ws : List Int) (hwl : ws.length = n) (hw : ∀ j, j < n → ws.getD j 0 = if x.testBit j then 1 else 0) : fills xs ws = xs.getD x 0 := by
  have h1 : high ws ≤ (1 : Nat) := by
    unfold high
    refine (highTo_in ws ws.length 0 1 fun j => ?_).2
    by_cases hj : j < n
    · rw [hw j hj]; split <;> omega
    · rw [List.getD_eq_getElem?_getD, List.getElem?_eq_none (by omega)]; simp
  unfold fills
  rw [fillsTo_high xs ws g.zero 1 1000 h1 (by omega)]
  have e : fillsTo xs ws 1 = 0 + xs.getD (grpTo ws 1 ws.length) 0 := rfl
  rw [e, Int.zero_add, hwl]
  have e2 : grpTo ws 1 n = x := by
    apply Nat.eq_of_testBit_eq
    intro j
    rw [grpTo_bit]
    by_cases hj : j < n
    · rw [decide_eq_true hj, hw j hj]
      cases x.testBit j <;> rfl
    · rw [decide_eq_false hj, Bool.false_and]
      exact (Nat.testBit_lt_two_pow (Nat.lt_of_lt_of_le hx (Nat.pow_le_pow_right (by omega) (by omega)))).symm
  rw [e2]
end Go.Proofs.Ytpehhbiodmgjeaa
