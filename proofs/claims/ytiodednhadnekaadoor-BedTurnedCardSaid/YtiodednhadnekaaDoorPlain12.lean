/- Plain laws: a bed that is turned or moved keeps its transversals, its squares and whether it has a mate. No condition. -/
import Derived.Test.YtiodednhadnekaaDoorW61
namespace Go.Proofs.YtiodednhadnekaaDoor

/-! ### remainders -/
theorem mod_inj {n a b k : Nat} (ha : a < n) (hb : b < n) (h : (a + k) % n = (b + k) % n) : a = b := by
  have h1 : ((a : Int) + k - (b + k)) % n = 0 := by
    have h2 : ((a : Int) + k) % n = ((b : Int) + k) % n := by
      have := congrArg (Int.ofNat) h
      simpa using this
    rw [Int.sub_emod, h2, ← Int.sub_emod]; simp
  have e : ((a : Int) + k - (b + k)) = (a : Int) - b := by omega
  rw [e] at h1
  have h3 := Int.emod_add_mul_ediv ((a : Int) - b) n
  rw [h1, Int.zero_add] at h3
  generalize ((a : Int) - b) / n = q at h3
  rcases Int.lt_trichotomy q 0 with hq | hq | hq
  · have h4 : (n : Int) * q ≤ (n : Int) * (-1) := Int.mul_le_mul_of_nonneg_left (by omega) (by omega)
    omega
  · rw [hq] at h3; omega
  · have h4 : (n : Int) * 1 ≤ (n : Int) * q := Int.mul_le_mul_of_nonneg_left (by omega) (by omega)
    omega
def back (n k : Nat) : Nat := n - k % n
theorem mod_back {n r k : Nat} (hr : r < n) : ((r + k) % n + back n k) % n = r := by
  have hn : 0 < n := by omega
  have hk := Nat.mod_lt k hn
  unfold back
  rw [Nat.mod_add_mod, show r + k + (n - k % n) = r + (k + (n - k % n)) by omega]
  have e : k + (n - k % n) = n * (k / n + 1) := by
    have := Nat.div_add_mod k n
    rw [Nat.mul_add, Nat.mul_one]
    omega
  rw [e, Nat.add_mul_mod_self_left, Nat.mod_eq_of_lt hr]
theorem back_mod {n r k : Nat} (hr : r < n) : ((r + back n k) % n + k) % n = r := by
  have hn : 0 < n := by omega
  have hk := Nat.mod_lt k hn
  unfold back
  rw [Nat.mod_add_mod, show r + (n - k % n) + k = r + (k + (n - k % n)) by omega]
  have e : k + (n - k % n) = n * (k / n + 1) := by
    have := Nat.div_add_mod k n
    rw [Nat.mul_add, Nat.mul_one]
    omega
  rw [e, Nat.add_mul_mod_self_left, Nat.mod_eq_of_lt hr]
/-! ### the bed that is moved -/
def mvL (b : List (List Int)) (n R C : Nat) : List (List Int) := gridL n fun r c => (gAt b ((r + R) % n) c + C) % n
theorem mvL_at {b : List (List Int)} {n R C r c : Nat} (hr : r < n) (hc : c < n) : gAt (mvL b n R C) r c = (gAt b ((r + R) % n) c + C) % n := gAt_gridL _ hr hc
theorem imod_inj {n : Nat} {x y : Int} {C : Nat} (hx : 0 ≤ x ∧ x < n) (hy : 0 ≤ y ∧ y < n) (h : (x + C) % n = (y + C) % n) : x = y := by
  obtain ⟨a, rfl⟩ : ∃ a : Nat, x = a := ⟨x.toNat, by omega⟩
  obtain ⟨b, rfl⟩ : ∃ b : Nat, y = b := ⟨y.toNat, by omega⟩
  have h2 : (a + C) % n = (b + C) % n := by
    have h3 : (((a + C) % n : Nat) : Int) = (((b + C) % n : Nat) : Int) := by simpa using h
    exact Int.ofNat_inj.1 h3
  rw [mod_inj (by omega) (by omega) h2]
section
variable {n : Nat} {b : List (List Int)}
theorem tc_full (hb : IsFull n b) : IsFull n (tcL b n) :=
  ⟨gridL_shape _ _, fun r c hr hc => by rw [tcL_at hc hr]; exact hb.lo c r hc hr,
    ⟨fun r c d hr hc hd hcd h0 => by rw [tcL_at hc hr, tcL_at hd hr]; exact hb.once.2 c d r hc hd hr hcd (hb.lo c r hc hr).1,
     fun r s c hr hs hc hrs h0 => by rw [tcL_at hc hr, tcL_at hc hs]; exact hb.once.1 c r s hc hr hs hrs (hb.lo c r hc hr).1⟩⟩
theorem tx_full (hb : IsFull n b) : IsFull n (txL b n) := by
  refine ⟨gridL_shape _ _, fun x r hx hr => ?_, ⟨fun x r s hx hr hs hrs h0 e => ?_, fun x y r hx hy hr hxy h0 e => ?_⟩⟩
  · rw [txL_at hr hx]; have := (posN_lt hb hr hx).1; omega
  · rw [txL_at hr hx, txL_at hs hx] at e
    obtain ⟨a1, a2⟩ := posN_lt hb hr hx
    obtain ⟨a3, a4⟩ := posN_lt hb hs hx
    have e : posN b n r x = posN b n s x := by omega
    rw [← e] at a4
    exact hb.once.2 r s _ hr hs a1 hrs (by omega) (by rw [a2, a4])
  · rw [txL_at hr hx, txL_at hr hy] at e
    obtain ⟨a1, a2⟩ := posN_lt hb hr hx
    obtain ⟨a3, a4⟩ := posN_lt hb hr hy
    have e : posN b n r x = posN b n r y := by omega
    rw [← e] at a4
    omega
theorem mod_lt' {r R : Nat} (hr : r < n) : (r + R) % n < n := Nat.mod_lt _ (by omega)
theorem mv_full (hb : IsFull n b) (R C : Nat) : IsFull n (mvL b n R C) := by
  refine ⟨gridL_shape _ _, fun r c hr hc => ?_, ⟨fun r c d hr hc hd hcd h0 e => ?_, fun r s c hr hs hc hrs h0 e => ?_⟩⟩
  · rw [mvL_at hr hc]
    exact ⟨Int.emod_nonneg _ (by omega), Int.emod_lt_of_pos _ (by omega)⟩
  · rw [mvL_at hr hc, mvL_at hr hd] at e
    have hr' := mod_lt' (R := R) hr
    exact hb.once.1 _ c d hr' hc hd hcd (hb.lo _ c hr' hc).1 (imod_inj (hb.lo _ c hr' hc) (hb.lo _ d hr' hd) e)
  · rw [mvL_at hr hc, mvL_at hs hc] at e
    have hr' := mod_lt' (R := R) hr
    have hs' := mod_lt' (R := R) hs
    exact hb.once.2 _ _ c hr' hs' hc (fun e2 => hrs (mod_inj hr hs e2)) (hb.lo _ c hr' hc).1 (imod_inj (hb.lo _ c hr' hc) (hb.lo _ c hs' hc) e)
theorem tc_tc (hb : IsFull n b) : tcL (tcL b n) n = b :=
  grid_ext (gridL_shape _ _) hb.shape fun r c hr hc => by rw [tcL_at hc hr, tcL_at hr hc]
theorem tx_at (hb : IsFull n b) {r c x : Nat} (hr : r < n) (hc : c < n) (hx : x < n) (h : gAt b r c = x) : gAt (txL b n) x r = c := by
  rw [txL_at hr hx, ← h, posN_is hb hr hc]
theorem nat_gAt (hb : IsFull n b) {r c : Nat} (hr : r < n) (hc : c < n) : ∃ x : Nat, gAt b r c = x ∧ x < n := by
  have := hb.lo r c hr hc
  exact ⟨(gAt b r c).toNat, by omega, by omega⟩
theorem tx_tx_tx (hb : IsFull n b) : txL (txL (txL b n) n) n = b :=
  grid_ext (gridL_shape _ _) hb.shape fun r c hr hc => by
    obtain ⟨x, hx, hxn⟩ := nat_gAt hb hr hc
    have h1 := tx_at hb hr hc hxn hx
    have h2 := tx_at (tx_full hb) hxn hr hc h1
    rw [tx_at (tx_full (tx_full hb)) hc hxn hr h2, hx]
theorem mv_mv (hb : IsFull n b) (R C : Nat) : mvL (mvL b n R C) n (back n R) (back n C) = b :=
  grid_ext (gridL_shape _ _) hb.shape fun r c hr hc => by
    rw [mvL_at hr hc, mvL_at (mod_lt' hr) hc, back_mod hr]
    obtain ⟨x, hx, hxn⟩ := nat_gAt hb hr hc
    rw [hx]
    have := mod_back (k := C) hxn
    have h2 : ((((x + C) % n + back n C) % n : Nat) : Int) = (x : Int) := by rw [this]
    simpa using h2
/-! ### transversals -/
theorem IsTr.ne {l : List Nat} (h : IsTr n b l) {i j : Nat} (hi : i < n) (hj : j < n) (hij : i ≠ j) : l.getD i 0 ≠ l.getD j 0 ∧ gAt b i (l.getD i 0) ≠ gAt b j (l.getD j 0) := by
  rcases Nat.lt_or_ge i j with h1 | h1
  · exact h.2.2 i j h1 hj
  · have := h.2.2 j i (by omega) hi
    exact ⟨this.1.symm, this.2.symm⟩
def invL (n : Nat) (f : Nat → Nat) : List Nat := (List.range n).map fun y => ((List.range n).find? fun r => f r == y).getD 0
theorem invL_len (f : Nat → Nat) : (invL n f).length = n := by simp [invL]
theorem invL_at {f : Nat → Nat} (h2 : ∀ i j, i < n → j < n → i ≠ j → f i ≠ f j) {r : Nat} (hr : r < n) (hf : f r < n) : (invL n f).getD (f r) 0 = r := by
  have e : (invL n f).getD (f r) 0 = ((List.range n).find? fun s => f s == f r).getD 0 := by simp [invL, List.getD_eq_getElem?_getD, hf]
  rw [e, find_some hr (by simp) fun j hj => ?_]
  · rfl
  · simpa using h2 j r (by omega) hr (by omega)
theorem invL_is {f : Nat → Nat} (h1 : ∀ i, i < n → f i < n) (h2 : ∀ i j, i < n → j < n → i ≠ j → f i ≠ f j) {y : Nat} (hy : y < n) : (invL n f).getD y 0 < n ∧ f ((invL n f).getD y 0) = y := by
  obtain ⟨r, hr, e⟩ := onto_of_inj h1 h2 y hy
  have := invL_at h2 hr (h1 r hr)
  rw [e] at this
  rw [this]
  exact ⟨hr, e⟩
/-- A map of transversals, one to one, shows that there are no fewer. -/
theorem trans_le {x : List (List Int)} (hb : IsFull n b) (hx : IsFull n x) (φ : List Nat → List Nat) (h1 : ∀ l, IsTr n b l → IsTr n x (φ l)) (h2 : ∀ l l', IsTr n b l → IsTr n b l' → φ l = φ l' → l = l') : (trans b n).length ≤ (trans x n).length := by
  have hnd : ((trans b n).map φ).Nodup := by
    refine List.pairwise_map.2 (List.Pairwise.imp_of_mem (fun {l l'} hl hl' hne e => hne ?_) (trans_nodup b n))
    exact h2 l l' ((mem_trans hb l).1 hl) ((mem_trans hb l').1 hl') e
  have := nodup_sub hnd (m := trans x n) (fun l hl => by
    obtain ⟨l', hl', rfl⟩ := List.mem_map.1 hl
    exact (mem_trans hx _).2 (h1 l' ((mem_trans hb l').1 hl')))
  simpa using this
theorem tr_ext {l l' : List Nat} (h : l.length = n) (h' : l'.length = n) (he : ∀ r, r < n → l.getD r 0 = l'.getD r 0) : l = l' := by
  apply List.ext_getElem (by omega)
  intro i h1 h2
  have := he i (by omega)
  simpa [List.getD_eq_getElem?_getD, h1, h2] using this
theorem trans_tc_le (hb : IsFull n b) : (trans b n).length ≤ (trans (tcL b n) n).length := by
  refine trans_le hb (tc_full hb) (fun l => invL n fun r => l.getD r 0) (fun l hl => ?_) (fun l l' hl hl' e => ?_)
  · have hi := fun y (hy : y < n) => invL_is (f := fun r => l.getD r 0) hl.2.1 (fun i j hi hj hij => (hl.ne hi hj hij).1) hy
    refine ⟨invL_len _, fun i hi' => (hi i hi').1, fun i j hij hj => ?_⟩
    have hi' : i < n := by omega
    obtain ⟨a1, a2⟩ := hi i hi'
    obtain ⟨a3, a4⟩ := hi j hj
    generalize (invL n fun r => l.getD r 0).getD i 0 = r at *
    generalize (invL n fun r => l.getD r 0).getD j 0 = s at *
    have a2 : l.getD r 0 = i := a2
    have a4 : l.getD s 0 = j := a4
    have hrs : r ≠ s := fun e => by rw [e, a4] at a2; omega
    refine ⟨hrs, ?_⟩
    have := (hl.ne a1 a3 hrs).2
    rw [a2, a4] at this
    rw [tcL_at a1 hi', tcL_at a3 hj]
    exact this
  · refine tr_ext hl.1 hl'.1 fun r hr => ?_
    have e1 := invL_at (f := fun r => l.getD r 0) (fun i j hi hj hij => (hl.ne hi hj hij).1) hr (hl.2.1 r hr)
    have e : (invL n fun r => l.getD r 0) = invL n fun r => l'.getD r 0 := e
    rw [e] at e1
    have e2 := (invL_is (f := fun r => l'.getD r 0) hl'.2.1 (fun i j hi hj hij => (hl'.ne hi hj hij).1) (hl.2.1 r hr)).2
    have e1 : (invL n fun r => l'.getD r 0).getD (l.getD r 0) 0 = r := e1
    rw [e1] at e2
    exact e2.symm
theorem trans_tc (hb : IsFull n b) : (trans (tcL b n) n).length = (trans b n).length := by
  have h1 := trans_tc_le hb
  have h2 := trans_tc_le (tc_full hb)
  rw [tc_tc hb] at h2
  omega
theorem trans_tx_le (hb : IsFull n b) : (trans b n).length ≤ (trans (txL b n) n).length := by
  have hf1 : ∀ l, IsTr n b l → ∀ i, i < n → (gAt b i (l.getD i 0)).toNat < n := fun l hl i hi => by have := hb.lo i _ hi (hl.2.1 i hi); omega
  have hf2 : ∀ l, IsTr n b l → ∀ i j, i < n → j < n → i ≠ j → (gAt b i (l.getD i 0)).toNat ≠ (gAt b j (l.getD j 0)).toNat := fun l hl i j hi hj hij e => by
    have a1 := hb.lo i _ hi (hl.2.1 i hi)
    have a2 := hb.lo j _ hj (hl.2.1 j hj)
    exact (hl.ne hi hj hij).2 (by omega)
  refine trans_le hb (tx_full hb) (fun l => invL n fun r => (gAt b r (l.getD r 0)).toNat) (fun l hl => ?_) (fun l l' hl hl' e => ?_)
  · have hi := fun y (hy : y < n) => invL_is (f := fun r => (gAt b r (l.getD r 0)).toNat) (hf1 l hl) (hf2 l hl) hy
    refine ⟨invL_len _, fun i hi' => (hi i hi').1, fun i j hij hj => ?_⟩
    have hi' : i < n := by omega
    obtain ⟨a1, a2⟩ := hi i hi'
    obtain ⟨a3, a4⟩ := hi j hj
    generalize (invL n fun r => (gAt b r (l.getD r 0)).toNat).getD i 0 = r at *
    generalize (invL n fun r => (gAt b r (l.getD r 0)).toNat).getD j 0 = s at *
    have a2 : (gAt b r (l.getD r 0)).toNat = i := a2
    have a4 : (gAt b s (l.getD s 0)).toNat = j := a4
    have l1 := hb.lo r _ a1 (hl.2.1 r a1)
    have l2 := hb.lo s _ a3 (hl.2.1 s a3)
    have hrs : r ≠ s := fun e => by rw [e, a4] at a2; omega
    refine ⟨hrs, ?_⟩
    rw [tx_at hb a1 (hl.2.1 r a1) hi' (by omega), tx_at hb a3 (hl.2.1 s a3) hj (by omega)]
    have := (hl.ne a1 a3 hrs).1
    omega
  · refine tr_ext hl.1 hl'.1 fun r hr => ?_
    have e1 := invL_at (f := fun r => (gAt b r (l.getD r 0)).toNat) (hf2 l hl) hr (hf1 l hl r hr)
    have e : (invL n fun r => (gAt b r (l.getD r 0)).toNat) = invL n fun r => (gAt b r (l'.getD r 0)).toNat := e
    rw [e] at e1
    have e2 := (invL_is (f := fun r => (gAt b r (l'.getD r 0)).toNat) (hf1 l' hl') (hf2 l' hl') (hf1 l hl r hr)).2
    have e1 : (invL n fun r => (gAt b r (l'.getD r 0)).toNat).getD (gAt b r (l.getD r 0)).toNat 0 = r := e1
    rw [e1] at e2
    have l1 := hb.lo r _ hr (hl.2.1 r hr)
    have l2 := hb.lo r _ hr (hl'.2.1 r hr)
    have e2 : (gAt b r (l'.getD r 0)).toNat = (gAt b r (l.getD r 0)).toNat := e2
    rcases Decidable.em (l.getD r 0 = l'.getD r 0) with h | h
    · exact h
    · exact absurd (by omega) (hb.once.1 r _ _ hr (hl.2.1 r hr) (hl'.2.1 r hr) h l1.1)
theorem trans_tx (hb : IsFull n b) : (trans (txL b n) n).length = (trans b n).length := by
  have h1 := trans_tx_le hb
  have h2 := trans_tx_le (tx_full hb)
  have h3 := trans_tx_le (tx_full (tx_full hb))
  rw [tx_tx_tx hb] at h3
  omega
theorem trans_mv_le (hb : IsFull n b) (R C : Nat) : (trans b n).length ≤ (trans (mvL b n R C) n).length := by
  have hg : ∀ (l : List Nat) r, r < n → ((List.range n).map fun r => l.getD ((r + R) % n) 0).getD r 0 = l.getD ((r + R) % n) 0 := fun l r hr => by simp [List.getD_eq_getElem?_getD, hr]
  refine trans_le hb (mv_full hb R C) (fun l => (List.range n).map fun r => l.getD ((r + R) % n) 0) (fun l hl => ?_) (fun l l' hl hl' e => ?_)
  · refine ⟨by simp, fun i hi => by rw [hg l i hi]; exact hl.2.1 _ (mod_lt' hi), fun i j hij hj => ?_⟩
    have hi : i < n := by omega
    rw [hg l i hi, hg l j hj]
    have hne : (i + R) % n ≠ (j + R) % n := fun e => by have := mod_inj hi hj e; omega
    have h1 := hl.2.1 _ (mod_lt' (R := R) hi)
    have h2 := hl.2.1 _ (mod_lt' (R := R) hj)
    have h3 := hl.ne (mod_lt' hi) (mod_lt' hj) hne
    refine ⟨h3.1, fun e => h3.2 ?_⟩
    rw [mvL_at hi h1, mvL_at hj h2] at e
    exact imod_inj (hb.lo _ _ (mod_lt' hi) h1) (hb.lo _ _ (mod_lt' hj) h2) e
  · refine tr_ext hl.1 hl'.1 fun r hr => ?_
    have hr' := mod_lt' (R := back n R) hr
    have e1 := hg l _ hr'
    have e2 := hg l' _ hr'
    have e : ((List.range n).map fun r => l.getD ((r + R) % n) 0) = (List.range n).map fun r => l'.getD ((r + R) % n) 0 := e
    rw [e, e2, back_mod hr] at e1
    exact e1.symm
theorem trans_mv (hb : IsFull n b) (R C : Nat) : (trans (mvL b n R C) n).length = (trans b n).length := by
  have h1 := trans_mv_le hb R C
  have h2 := trans_mv_le (mv_full hb R C) (back n R) (back n C)
  rw [mv_mv hb] at h2
  omega
/-! ### mates -/
def HasMate (n : Nat) (b : List (List Int)) : Prop := ∃ m, MateP n b m
theorem mate_tc (h : HasMate n b) : HasMate n (tcL b n) := by
  obtain ⟨m, h1, h2⟩ := h
  refine ⟨tcL m n, tc_full h1, fun r c s d hr hc hs hd e1 e2 => ?_⟩
  rw [tcL_at hc hr, tcL_at hd hs] at e1 e2
  have := h2 c r d s hc hr hd hs e1 e2
  exact ⟨this.2, this.1⟩
theorem mate_tx (hb : IsFull n b) (h : HasMate n b) : HasMate n (txL b n) := by
  obtain ⟨m, h1, h2⟩ := h
  have hg : ∀ x r, x < n → r < n → gAt (gridL n fun x r => gAt m r (posN b n r (x : Nat))) x r = gAt m r (posN b n r (x : Nat)) := fun x r hx hr => gAt_gridL _ hx hr
  have hp : ∀ r x, r < n → x < n → posN b n r (x : Nat) < n ∧ gAt b r (posN b n r (x : Nat)) = (x : Int) := fun r x hr hx => posN_lt hb hr hx
  refine ⟨gridL n fun x r => gAt m r (posN b n r (x : Nat)), ⟨gridL_shape _ _, fun x r hx hr => ?_, ⟨fun x r s hx hr hs hrs _ e => ?_, fun x y r hx hy hr hxy _ e => ?_⟩⟩, fun x r y s hx hr hy hs e1 e2 => ?_⟩
  · rw [hg x r hx hr]; exact h1.lo r _ hr (hp r x hr hx).1
  · rw [hg x r hx hr, hg x s hx hs] at e
    obtain ⟨a1, a2⟩ := hp r x hr hx
    obtain ⟨a3, a4⟩ := hp s x hs hx
    exact hrs (h2 r _ s _ hr a1 hs a3 (by rw [a2, a4]) e).1
  · rw [hg x r hx hr, hg y r hy hr] at e
    obtain ⟨a1, a2⟩ := hp r x hr hx
    obtain ⟨a3, a4⟩ := hp r y hr hy
    rcases Decidable.em (posN b n r (x : Nat) = posN b n r (y : Nat)) with h | h
    · rw [h, a4] at a2; omega
    · exact h1.once.1 r _ _ hr a1 a3 h (h1.lo r _ hr a1).1 e
  · rw [txL_at hr hx, txL_at hs hy] at e1
    rw [hg x r hx hr, hg y s hy hs] at e2
    obtain ⟨a1, a2⟩ := hp r x hr hx
    obtain ⟨a3, a4⟩ := hp s y hs hy
    have e1 : posN b n r (x : Nat) = posN b n s (y : Nat) := by omega
    rw [← e1] at e2 a4
    have hrs : r = s := by
      rcases Decidable.em (r = s) with h | h
      · exact h
      · exact absurd e2 (h1.once.2 r s _ hr hs a1 h (h1.lo r _ hr a1).1)
    subst hrs
    rw [a2] at a4
    exact ⟨by omega, rfl⟩
theorem mate_mv (hb : IsFull n b) (R C : Nat) (h : HasMate n b) : HasMate n (mvL b n R C) := by
  obtain ⟨m, h1, h2⟩ := h
  refine ⟨mvL m n R 0, mv_full h1 R 0, fun r c s d hr hc hs hd e1 e2 => ?_⟩
  rw [mvL_at hr hc, mvL_at hs hd] at e1 e2
  have hr' := mod_lt' (R := R) hr
  have hs' := mod_lt' (R := R) hs
  have := h2 _ c _ d hr' hc hs' hd (imod_inj (hb.lo _ _ hr' hc) (hb.lo _ _ hs' hd) e1) (imod_inj (h1.lo _ _ hr' hc) (h1.lo _ _ hs' hd) e2)
  exact ⟨mod_inj hr hs this.1, this.2⟩
theorem mate_tc_iff (hb : IsFull n b) : HasMate n (tcL b n) ↔ HasMate n b :=
  ⟨fun h => by have := mate_tc h; rwa [tc_tc hb] at this, mate_tc⟩
theorem mate_tx_iff (hb : IsFull n b) : HasMate n (txL b n) ↔ HasMate n b :=
  ⟨fun h => by have := mate_tx (tx_full (tx_full hb)) (mate_tx (tx_full hb) h); rwa [tx_tx_tx hb] at this, mate_tx hb⟩
theorem mate_mv_iff (hb : IsFull n b) (R C : Nat) : HasMate n (mvL b n R C) ↔ HasMate n b :=
  ⟨fun h => by have := mate_mv (mv_full hb R C) (back n R) (back n C) h; rwa [mv_mv hb] at this, mate_mv hb R C⟩
open Classical in
theorem mateE_is (h1 : 1 ≤ n) (h7 : n ≤ 7) (hb : IsFull n b) : mateE b = if n ≤ 5 then (if HasMate n b then 0 else 10) else 2 := by
  have hf := fullB_of h1 h7 hb
  have hl := hb.shape.1
  unfold mateE
  by_cases h5 : n ≤ 5
  · have hok : mateOk b := ⟨hf, by rw [hl]; exact h5⟩
    rw [if_pos hok, if_pos h5]
    obtain ⟨a1, a2⟩ := mtF_mate h1 hb
    have e : mateL b = mtF n (trans b n) n 0 (fun _ _ => -1) [] := by unfold mateL; rw [if_pos hok, hl]
    by_cases hm : HasMate n b
    · rw [if_pos hm, if_neg]
      intro h
      obtain ⟨t, ht⟩ := hm
      rw [e] at h
      exact a1 h t ht
    · rw [if_neg hm, if_pos]
      rw [e]
      rcases Decidable.em (mtF n (trans b n) n 0 (fun _ _ => -1) [] = []) with h | h
      · exact h
      · exact absurd ⟨_, a2 h⟩ hm
  · rw [if_neg h5, if_neg]
    intro h
    exact h5 (by rw [← hl]; exact h.2)
end
end Go.Proofs.YtiodednhadnekaaDoor
