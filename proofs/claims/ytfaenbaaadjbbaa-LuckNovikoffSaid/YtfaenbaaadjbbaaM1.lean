/- Plain laws: numbers as digits to the base 10000. No condition. Walks: the specification's numbers: trim, whole, Of, cmpD, Compare. Walks: whole, Of. Walks: Of, cmpD, Compare. Walks: cmpD, Compare. Walks: mulD. Walks: Times. -/
import Derived.Test.YtfaenbaaadjbbaaPlain14
import Derived.Test.YtfaenbaaadjbbaaW42
import Derived.StillTailTactics
namespace Go.Proofs.Ytfaenbaaadjbbaa

def D10 : Nat := 10000
theorem D10_eq : D10 = 10000 := rfl
theorem D10_pos : 0 < D10 := by decide
def valTd (ds : List Nat) : Nat → Nat
  | 0 => 0
  | i + 1 => valTd ds i + ds.getD i 0 * D10 ^ i
def valT (ds : List Nat) : Nat := valTd ds ds.length
theorem valTd_ge {ds : List Nat} {i : Nat} (h : ds.length ≤ i) : valTd ds i = valT ds := by
  induction i with
  | zero =>
    have : ds.length = 0 := by omega
    unfold valT; rw [this]
  | succ i ih =>
    rcases Nat.lt_or_ge i ds.length with h1 | h1
    · have : ds.length = i + 1 := by omega
      unfold valT; rw [this]
    · simp only [valTd]
      rw [ih h1]
      simp [List.getD_eq_getElem?_getD, h1]
def SmallT (ds : List Nat) : Prop := ∀ j, ds.getD j 0 < D10
theorem valTd_lt {ds : List Nat} (h : SmallT ds) (i : Nat) : valTd ds i < D10 ^ i := by
  induction i with
  | zero => simp [valTd]
  | succ i ih =>
    have h1 := h i
    simp only [valTd]
    rw [Nat.pow_succ]
    have : (ds.getD i 0 + 1) * D10 ^ i ≤ D10 * D10 ^ i := Nat.mul_le_mul_right _ h1
    rw [Nat.add_mul, Nat.one_mul, Nat.mul_comm D10] at this
    omega
theorem valTd_mono (ds : List Nat) {i j : Nat} (h : i ≤ j) : valTd ds i ≤ valTd ds j := by
  induction j with
  | zero => obtain rfl : i = 0 := by omega
            exact Nat.le_refl _
  | succ j ih =>
    rcases Nat.lt_or_ge i (j + 1) with h1 | h1
    · have := ih (by omega)
      simp only [valTd]; omega
    · obtain rfl : i = j + 1 := by omega
      exact Nat.le_refl _
theorem valTd_congr {ds es : List Nat} {i : Nat} (h : ∀ j, j < i → ds.getD j 0 = es.getD j 0) : valTd ds i = valTd es i := by
  induction i with
  | zero => rfl
  | succ i ih => simp only [valTd]; rw [ih fun j hj => h j (by omega), h i (by omega)]
theorem valTd_zeros {ds : List Nat} {k i : Nat} (hk : k ≤ i) (h : ∀ j, k ≤ j → j < i → ds.getD j 0 = 0) : valTd ds i = valTd ds k := by
  induction i with
  | zero => obtain rfl : k = 0 := by omega
            rfl
  | succ i ih =>
    rcases Nat.lt_or_ge k (i + 1) with h1 | h1
    · simp only [valTd]
      rw [ih (by omega) fun j h2 h3 => h j h2 (by omega), h i (by omega) (by omega), Nat.zero_mul, Nat.add_zero]
    · obtain rfl : k = i + 1 := by omega
      rfl
theorem getN_setT (l : List Nat) (i j x : Nat) (h : i < l.length) : (l.set i x).getD j 0 = if j = i then x else l.getD j 0 := by
  by_cases hj : j = i
  · subst hj; simp [List.getD_eq_getElem?_getD, h]
  · rw [if_neg hj]; simp [List.getD_eq_getElem?_getD, List.getElem?_set_ne (fun e => hj e.symm)]
theorem valTd_set_low (ds : List Nat) (i x k : Nat) (hi : i < ds.length) (h : k ≤ i) : valTd (ds.set i x) k = valTd ds k :=
  valTd_congr fun j hj => by rw [getN_setT _ _ _ _ hi, if_neg (by omega)]
theorem valTd_set (ds : List Nat) (i x k : Nat) (hi : i < ds.length) (h : i < k) : valTd (ds.set i x) k + ds.getD i 0 * D10 ^ i = valTd ds k + x * D10 ^ i := by
  induction k with
  | zero => omega
  | succ k ih =>
    simp only [valTd]
    rcases Nat.lt_or_ge i k with h1 | h1
    · have := ih h1
      rw [getN_setT _ _ _ _ hi, if_neg (by omega : ¬ k = i)]; omega
    · obtain rfl : i = k := by omega
      rw [valTd_set_low ds i x i hi (Nat.le_refl _), getN_setT _ _ _ _ hi, if_pos rfl]; omega
theorem smallT_set {ds : List Nat} (h : SmallT ds) (i x : Nat) (hi : i < ds.length) (hx : x < D10) : SmallT (ds.set i x) := fun j => by
  rw [getN_setT _ _ _ _ hi]; split
  · exact hx
  · exact h j
theorem smallT_zeros (n : Nat) : SmallT (List.replicate n 0) := fun j => by
  have : (List.replicate n 0).getD j 0 = 0 := by simp [List.getD_eq_getElem?_getD, List.getElem?_replicate]; split <;> rfl
  rw [this]; exact D10_pos
theorem zerosT_get (n j : Nat) : (List.replicate n 0).getD j 0 = 0 := by
  simp [List.getD_eq_getElem?_getD, List.getElem?_replicate]; split <;> rfl
/-- No zero at the end. -/
def NormT (ds : List Nat) : Prop := ds.length = 0 ∨ ds.getD (ds.length - 1) 0 ≠ 0
theorem normT_low {ds : List Nat} (h : NormT ds) (hp : 0 < ds.length) : D10 ^ (ds.length - 1) ≤ valT ds := by
  rcases h with h | h
  · omega
  · obtain ⟨n, hn⟩ : ∃ n, ds.length = n + 1 := ⟨ds.length - 1, by omega⟩
    have e : ds.length - 1 = n := by omega
    rw [e] at h ⊢
    unfold valT
    rw [hn]
    simp only [valTd]
    have : 1 * D10 ^ n ≤ ds.getD n 0 * D10 ^ n := Nat.mul_le_mul_right _ (by omega)
    omega
theorem valT_lt {ds : List Nat} (h : SmallT ds) : valT ds < D10 ^ ds.length := valTd_lt h _
theorem valT_zero {ds : List Nat} (h : NormT ds) : valT ds = 0 ↔ ds.length = 0 := by
  constructor
  · intro h0
    rcases Nat.eq_zero_or_pos ds.length with h1 | h1
    · exact h1
    · have := normT_low h h1
      have := Nat.pow_pos (n := ds.length - 1) D10_pos
      omega
  · intro h0; unfold valT; rw [h0]; rfl
/-- A number below a power has few digits. -/
theorem normT_len {ds : List Nat} (h : NormT ds) (k : Nat) (hv : valT ds < D10 ^ k) : ds.length ≤ k := by
  rcases Nat.lt_or_ge k ds.length with h1 | h1
  · have := normT_low h (by omega)
    have h2 : D10 ^ k ≤ D10 ^ (ds.length - 1) := Nat.pow_le_pow_right D10_pos (by omega)
    omega
  · exact h1
/-- Fewer digits are less. -/
theorem shorterT_lt {a b : List Nat} (ha : SmallT a) (hb : NormT b) (h : a.length < b.length) : valT a < valT b := by
  have h1 := valT_lt ha
  have h2 := normT_low hb (by omega)
  have h3 : D10 ^ a.length ≤ D10 ^ (b.length - 1) := Nat.pow_le_pow_right D10_pos (by omega)
  omega
/-- The highest digit that differs decides. -/
theorem digitT_lt {a b : List Nat} (ha : SmallT a) {i n : Nat} (hi : i < n) (hs : ∀ j, i < j → j < n → a.getD j 0 = b.getD j 0) (hlt : a.getD i 0 < b.getD i 0) : valTd a n < valTd b n := by
  induction n with
  | zero => omega
  | succ n ih =>
    simp only [valTd]
    rcases Nat.lt_or_ge i n with h1 | h1
    · have := ih h1 fun j h2 h3 => hs j h2 (by omega)
      rw [hs n h1 (by omega)]; omega
    · obtain rfl : i = n := by omega
      have h1 := valTd_lt ha i
      have : (a.getD i 0 + 1) * D10 ^ i ≤ b.getD i 0 * D10 ^ i := Nat.mul_le_mul_right _ hlt
      rw [Nat.add_mul, Nat.one_mul] at this
      omega
theorem valTd_take (ds : List Nat) (k i : Nat) (h : i ≤ k) : valTd (ds.take k) i = valTd ds i :=
  valTd_congr fun j hj => by simp [List.getD_eq_getElem?_getD, List.getElem?_take_of_lt (by omega : j < k)]
/-- Zeros at the end are cut off. -/
theorem trimT_val {ds : List Nat} {k : Nat} (hk : k ≤ ds.length) (hz : ∀ j, k ≤ j → j < ds.length → ds.getD j 0 = 0) : valT (ds.take k) = valT ds := by
  unfold valT
  rw [List.length_take, Nat.min_eq_left hk, valTd_take ds k k (Nat.le_refl _), valTd_zeros hk hz]
theorem trimT_norm {ds : List Nat} {k : Nat} (hk : k ≤ ds.length) (h : k = 0 ∨ ds.getD (k - 1) 0 ≠ 0) : NormT (ds.take k) := by
  unfold NormT
  rw [List.length_take, Nat.min_eq_left hk]
  rcases h with h | h
  · exact .inl h
  · by_cases h0 : k = 0
    · exact .inl h0
    · right
      simpa [List.getD_eq_getElem?_getD, List.getElem?_take_of_lt (by omega : k - 1 < k)] using h
theorem smallT_take {ds : List Nat} (h : SmallT ds) (k : Nat) : SmallT (ds.take k) := fun j => by
  by_cases hj : j < k
  · have := h j
    simpa [List.getD_eq_getElem?_getD, List.getElem?_take_of_lt hj] using this
  · have : (ds.take k).getD j 0 = 0 := by
      rw [List.getD_eq_getElem?_getD, List.getElem?_eq_none (by rw [List.length_take]; omega)]; rfl
    rw [this]; exact D10_pos
/-- One digit of a row of a product. -/
theorem mulT_step {O : List Nat} {L V i k a b c B : Nat} (hj : i + k < O.length) (hL : i + k < L) (h : valTd O L + c * D10 ^ (i + k) = V + a * B * D10 ^ i) :
    valTd (O.set (i + k) ((c + (a * b + O.getD (i + k) 0)) % D10)) L + (c + (a * b + O.getD (i + k) 0)) / D10 * D10 ^ (i + (k + 1)) = V + a * (B + b * D10 ^ k) * D10 ^ i := by
  have h1 := valTd_set O (i + k) ((c + (a * b + O.getD (i + k) 0)) % D10) L hj hL
  have e := Nat.div_add_mod (c + (a * b + O.getD (i + k) 0)) D10
  generalize O.getD (i + k) 0 = o at *
  have e5 : D10 ^ (i + (k + 1)) = D10 * D10 ^ (i + k) := by rw [← Nat.add_assoc, Nat.pow_succ, Nat.mul_comm]
  rw [e5]
  generalize (c + (a * b + o)) % D10 = r at *
  generalize (c + (a * b + o)) / D10 = q at *
  have h2 : (D10 * q + r) * D10 ^ (i + k) = (c + (a * b + o)) * D10 ^ (i + k) := by rw [e]
  rw [Nat.add_mul, Nat.add_mul, Nat.add_mul] at h2
  have e6 : q * (D10 * D10 ^ (i + k)) = D10 * q * D10 ^ (i + k) := by ac_rfl
  have e7 : a * (B + b * D10 ^ k) * D10 ^ i = a * B * D10 ^ i + a * b * D10 ^ (i + k) := by
    rw [Nat.mul_add, Nat.add_mul, Nat.pow_add]
    congr 1; ac_rfl
  rw [e6, e7]
  omega
theorem mul_lt_T {a b : Nat} (ha : a < D10) (hb : b < D10) : a * b + D10 + D10 ≤ D10 * D10 + 1 := by
  have : a * b ≤ (D10 - 1) * (D10 - 1) := Nat.mul_le_mul (by omega) (by omega)
  have e : (D10 - 1) * (D10 - 1) + D10 + D10 = D10 * D10 + 1 := by decide
  omega
/-- The digits as the program has them. -/
def nn (ds : List Nat) : List Int := ds.map fun d : Nat => (d : Int)
theorem nn_len (ds : List Nat) : (nn ds).length = ds.length := by simp [nn]
theorem nn_get (ds : List Nat) (j : Nat) : (nn ds).getD j 0 = (ds.getD j 0 : Int) := by
  by_cases h : j < ds.length <;> simp [nn, List.getD_eq_getElem?_getD, h]
theorem nn_set (ds : List Nat) (j x : Nat) : (nn ds).set j (x : Int) = nn (ds.set j x) := by simp [nn, List.map_set]
theorem nn_snoc (ds : List Nat) (x : Nat) : nn ds ++ [(x : Int)] = nn (ds ++ [x]) := by simp [nn]
theorem nn_zeros (n : Nat) : List.replicate n (0 : Int) = nn (List.replicate n 0) := by simp [nn]
theorem val_snoc (ds : List Nat) (x : Nat) : valT (ds ++ [x]) = valT ds + x * D10 ^ ds.length := by
  unfold valT
  rw [List.length_append, List.length_singleton]
  simp only [valTd]
  rw [valTd_congr (ds := ds ++ [x]) (es := ds) fun j hj => by simp [List.getD_eq_getElem?_getD, List.getElem?_append_left hj]]
  simp [List.getD_eq_getElem?_getD]
theorem smallT_snoc {ds : List Nat} (h : SmallT ds) {x : Nat} (hx : x < D10) : SmallT (ds ++ [x]) := fun j => by
  rcases Nat.lt_or_ge j ds.length with h1 | h1
  · have := h j
    simpa [List.getD_eq_getElem?_getD, List.getElem?_append_left h1] using this
  · by_cases h2 : j = ds.length
    · subst h2; simpa [List.getD_eq_getElem?_getD] using hx
    · have : (ds ++ [x]).getD j 0 = 0 := by rw [List.getD_eq_getElem?_getD, List.getElem?_eq_none (by simp; omega)]; rfl
      rw [this]; exact D10_pos
theorem two_le_T (n e : Nat) (h : n ≤ e) (he : e = 13 * 100) : 2 ^ n ≤ D10 ^ 100 := by
  have h1 : 2 ^ n ≤ 2 ^ e := Nat.pow_le_pow_right (by omega) h
  have h2 : (2 ^ 13) ^ 100 ≤ D10 ^ 100 := Nat.pow_le_pow_left (by decide) 100
  rw [← Nat.pow_mul, ← he] at h2
  exact Nat.le_trans h1 h2
end Go.Proofs.Ytfaenbaaadjbbaa

namespace Go.Proofs.Ytfaenbaaadjbbaa
open Go.RowKit

theorem nn_snoc' (ds : List Nat) (x : Nat) : nn ds ++ [(x : Int)] = nn (ds ++ [x]) := nn_snoc ds x
theorem nn_take (ds : List Nat) (k : Nat) : nn (ds.take k) = (nn ds).take k := by simp [nn, List.map_take]
theorem take_snoc {ds : List Nat} {t : Nat} (h : t < ds.length) : ds.take t ++ [ds.getD t 0] = ds.take (t + 1) := by
  rw [List.take_add_one]; simp [List.getD_eq_getElem?_getD, h]
/-- A new slice of digits came back. -/
def SlD (w : World) (N : Nat) (e : Ending) (w' : World) : Prop := ∃ (v : Value) (ds : List Nat), e = .returned v ∧ Row w' w.heap.size v (nn ds) ∧ ds.length ≤ 1000 ∧ SmallT ds ∧ NormT ds ∧ valT ds = N ∧ Below w.heap.size w w'
set_option maxRecDepth 100000 in
set_option maxHeartbeats 2000000 in
/-- dibberref01.trim -/
theorem f83_any (A : Option Addr) (ds : List Nat) (c : Nat) (w : World) (hs : Ints w A ds.length (nn ds)) (hsm : SmallT ds) (hl : ds.length ≤ 1000) :
    Calls Try.prog 83 #[.slice A ds.length c] w (SlD w (valT ds)) := by
  have HS := Lib.hid hs
  have HSM := Lib.hid hsm
  obtain ⟨n, hn⟩ : ∃ n, n = ds.length := ⟨_, rfl⟩
  rw [← hn] at HS hl ⊢
  have HN := Lib.hid hn
  clear hs hsm hn
  go_enter Try.func83, Try.ntmps83
  go_wp2
  go_loop [3] (fun i => ∃ k : Nat, k ≤ n ∧ i = .int .i64 (k : Int) ∧ Hid (∀ j, k ≤ j → j < n → ds.getD j 0 = 0)) (fun i => (intOf i).toNat)
  case atStart => exact ⟨n, by omega, rfl, fun j h1 h2 => by omega⟩
  case round => as_aux_lemma =>
    obtain ⟨k, hk, rfl, hz⟩ := hrel
    by_cases h0 : k = 0 ∨ ds.getD (k - 1) 0 ≠ 0
    · have hnorm : Hid (NormT (ds.take k)) := trimT_norm (by rw [← HN.out]; exact hk) h0
      have hval : Hid (valT (ds.take k) = valT ds) := trimT_val (by rw [← HN.out]; exact hk) (by rw [← HN.out]; exact hz.out)
      have hsmall : Hid (SmallT (ds.take k)) := smallT_take HSM.out k
      have hlen : Hid ((ds.take k).length = k) := by rw [List.length_take]; have := HN.out; unfold Hid; omega
      have hgo : k = 0 ∨ (0 < k ∧ ∃ u : Nat, k = u + 1 ∧ ∃ b off, A = some ⟨b, off, none⟩ ∧ w.cell? ⟨b, off + u, none⟩ = some (.int .i64 (ds.getD u 0 : Int)) ∧ ds.getD u 0 ≠ 0) := by
        rcases Nat.eq_zero_or_pos k with h | h
        · exact .inl h
        · right
          obtain ⟨b, off, e, hc⟩ := HS.out.at_ (show k - 1 < n by omega)
          rw [nn_get] at hc
          exact ⟨h, k - 1, by omega, b, off, e, hc, h0.resolve_left (by omega)⟩
      clear h0
      rcases hgo with h0 | ⟨h0, u, hku, b, off, rfl, hcu, hu⟩
      all_goals first
        | (have hq : ((ds.getD u 0 : Int) == 0) = false := by simpa using hu
           have hu0 : (0 : Int) ≤ (u : Int) := by omega
           have hun : (u : Int) < (n : Int) := by omega
           have hk0 : (0 : Int) < (k : Int) := by omega
           have hwu : IntKind.i64.wrap ((k : Int) - 1) = (u : Int) := by rw [IntWalk.i64_in _ (by omega)]; omega
           generalize ds.getD u 0 = y at *
           clear hu hku)
        | (have hk0 : ¬ (0 : Int) < (k : Int) := by omega)
      all_goals
        clear h0
        go_wp2_with fail
        go_loopw [4, 5] (fun v i wr => ∃ t : Nat, t ≤ k ∧ i = .int .i64 (t : Int) ∧ Row wr w.heap.size v (nn (ds.take t)) ∧ Below w.heap.size w wr) (fun _ i _ => k - (intOf i).toNat)
        case atStart => exact ⟨0, by omega, rfl, Row.nil _ _, Below.refl _ _⟩
        case round => as_aux_lemma =>
          obtain ⟨t, ht, rfl, hrow, hbel⟩ := hrel
          have HRW := Lib.hid hrow
          have HB := Lib.hid hbel
          have hsz := hbel.size
          by_cases hlt : t < k
          · first
            | (exfalso; omega)
            | skip
            all_goals
              obtain ⟨b3, o3, hA3, hct⟩ := HS.out.at_ (show t < n by omega)
              rw [nn_get] at hct
              have hct := (hbel.cell (lt_of_cell hct)).trans hct
              have hst : Hid (nn (ds.take t) ++ [(ds.getD t 0 : Int)] = nn (ds.take (t + 1))) := by
                rw [nn_snoc, take_snoc (by rw [← HN.out]; omega)]; rfl
              have hll : Hid ((nn (ds.take t)).length ≤ 1000000) := by rw [nn_len, List.length_take]; unfold Hid; omega
              generalize ds.getD t 0 = z at *
              have t0 : (0 : Int) ≤ (t : Int) := by omega
              have tn : (t : Int) < (n : Int) := by omega
              have tk : (t : Int) < (k : Int) := by omega
              clear hrow hbel
              first
                | subst hA3
                | (injection hA3 with hA3
                   injection hA3 with hA4 hA5
                   subst hA4 hA5)
              go_wp2_with (at_builtin; refine wpList_push rfl (.tmp 25) (.tmp 30) rfl w.heap.size _ (nn (ds.take t)) rfl (HRW.out.alloc _) wr.heap.size 1 (z : Int) rfl (cell_new wr _ 3 0) hll.out (by simp; omega) ?_; intro v2 w4 hr4 hg4)
              rw [hst.out] at hr4
              have B4 : Hid (Below w.heap.size w w4) := below_grown (HB.out.alloc hsz _) hg4 (by simp; omega) (HRW.out.alloc _) (Nat.le_refl _)
              have R4 := Lib.hid hr4
              clear hr4 hg4
              go_wp2_with fail
              go_roundw
              case rel => exact ⟨t + 1, by omega, by go_num, R4.out, B4.out⟩
              case measure => simp [intOf]; omega
          · obtain rfl : t = k := by omega
            have hfull : Hid ((ds.take t).length ≤ 1000) := by rw [hlen.out]; unfold Hid; omega
            clear hrow hbel
            go_wp2
            go_ret
            exact ⟨_, _, rfl, HRW.out, hfull.out, hsmall.out, hnorm.out, hval.out, HB.out⟩
    · have hk1 : 0 < k := by
        rcases Nat.eq_zero_or_pos k with h | h
        · exact absurd (.inl h) h0
        · exact h
      obtain ⟨u, hku⟩ : ∃ u, k = u + 1 := ⟨k - 1, by omega⟩
      obtain ⟨b, off, rfl, hc⟩ := HS.out.at_ (show u < n by omega)
      have hz0 : ds.getD u 0 = 0 := by
        rcases Nat.eq_zero_or_pos (ds.getD u 0) with h | h
        · exact h
        · exfalso; apply h0; right; rw [hku, Nat.add_sub_cancel]; omega
      rw [nn_get, hz0] at hc
      have hz2 : Hid (∀ j, u ≤ j → j < n → ds.getD j 0 = 0) := fun j h1 h2 => by
        rcases Nat.lt_or_ge j k with h | h
        · obtain rfl : j = u := by omega
          exact hz0
        · exact hz.out j h h2
      have hu0 : (0 : Int) ≤ (u : Int) := by omega
      have hun : (u : Int) < (n : Int) := by omega
      have hk0 : (0 : Int) < (k : Int) := by omega
      have hwu : IntKind.i64.wrap ((k : Int) - 1) = (u : Int) := by rw [IntWalk.i64_in _ (by omega)]; omega
      have hmeas : Hid (u < k) := by unfold Hid; omega
      have hun2 : u ≤ n := by omega
      clear h0 hz0 hz hku
      go_wp2
      go_round
      case rel => exact ⟨u, hun2, rfl, hz2⟩
      case measure => simp [intOf]; exact hmeas.out
end Go.Proofs.Ytfaenbaaadjbbaa

namespace Go.Proofs.Ytfaenbaaadjbbaa
open Go.RowKit

theorem Row.mono {w : World} {base base' : Nat} {v : Value} {xs : List Int} (h : Row w base v xs) (hb : base' ≤ base) : Row w base' v xs := by
  refine ⟨h.1, ?_⟩
  rcases h.2 with hn | ⟨g, cap, cur, e, hg, rest⟩
  · exact .inl hn
  · exact .inr ⟨g, cap, cur, e, Nat.le_trans hb hg, rest⟩
/-- A number of the specification, not below 0; its digits lie from the block `base` on. -/
def BigT (w : World) (base : Nat) (v : Value) (N : Nat) : Prop := ∃ (u : Value) (ds : List Nat), v = .agg #[.bool false, u] ∧ Row w base u (nn ds) ∧ ds.length ≤ 1000 ∧ SmallT ds ∧ NormT ds ∧ valT ds = N
theorem BigT.below {w w' : World} {base : Nat} {v : Value} {N : Nat} (h : BigT w base v N) (hb : Below w.heap.size w w') : BigT w' base v N := by
  obtain ⟨u, ds, h1, h2, h3⟩ := h
  exact ⟨u, ds, h1, h2.below hb, h3⟩
theorem BigT.mono {w : World} {base base' : Nat} {v : Value} {N : Nat} (h : BigT w base v N) (hb : base' ≤ base) : BigT w base' v N := by
  obtain ⟨u, ds, h1, h2, h3⟩ := h
  exact ⟨u, ds, h1, Row.mono h2 hb, h3⟩
theorem BigT.form {w : World} {base : Nat} {v : Value} {N : Nat} (h : BigT w base v N) : ∃ (A : Option Addr) (ds : List Nat) (c : Nat), v = .agg #[.bool false, .slice A ds.length c] ∧ Ints w A ds.length (nn ds) ∧ ds.length ≤ 1000 ∧ SmallT ds ∧ NormT ds ∧ valT ds = N := by
  obtain ⟨u, ds, rfl, h2, h3, h4⟩ := h
  obtain ⟨A, c, rfl, hi⟩ := Row.form h2
  have hi := hi 1000 (by rw [nn_len]; exact h3) (by omega)
  rw [nn_len] at hi
  exact ⟨A, ds, c, by rw [nn_len], hi, h3, h4⟩
theorem grown_setC (w : World) (a : Addr) (u : Value) : w.grownBy (w.setCell a u) (some a.block) :=
  ⟨rfl, rfl, rfl, by simp, fun k _ hk => heap_setCell_other w a k u (fun e => hk (by rw [e]))⟩
theorem BigT.setC {w : World} {base : Nat} {v : Value} {N : Nat} (h : BigT w base v N) (a : Addr) (x : Value) (ha : a.block < base) : BigT (w.setCell a x) base v N := by
  obtain ⟨u, ds, h1, h2, h3⟩ := h
  exact ⟨u, ds, h1, World.ownsRow.kept h2 (grown_setC w a x) (.inr fun e => by have := (World.ownsRow.lt h2 _ e).1; omega), h3⟩
set_option maxRecDepth 100000 in
set_option maxHeartbeats 2000000 in
/-- dibberref01.whole -/
theorem f67_any (A : Option Addr) (ds : List Nat) (c : Nat) (w : World) (hs : Ints w A ds.length (nn ds)) (hsm : SmallT ds) (hl : ds.length ≤ 1000) :
    Calls Try.prog 67 #[.bool false, .slice A ds.length c] w fun e w' => ∃ v, e = .returned v ∧ BigT w' w.heap.size v (valT ds) ∧ Below w.heap.size w w' := by
  have k83 := Lib.hid (f83_any A ds c (w.alloc (.cells #[.bool false, .slice none 0 0] 54)) (hs.below (below_alloc _ _)) hsm hl)
  generalize valT ds = N at *
  generalize ds.length = n at *
  clear hs hsm
  go_enter Try.func67, Try.ntmps67
  go_wp2_with fail
  refine k83.out.mono ?_
  rintro e w2 ⟨v2, es, rfl, hr2, hl2, hs2, hn2, hv2, hb2⟩
  have B2 := Lib.hid (below_step (below_alloc w (.cells #[.bool false, .slice none 0 0] 54)) hb2)
  have hlt : w.heap.size < (w.alloc (.cells #[.bool false, .slice none 0 0] 54)).heap.size := by simp
  have c0 := (hb2.cell (p := ⟨w.heap.size, 0, none⟩) hlt).trans (cell_new w _ 54 0)
  have c1 := (hb2.cell (p := ⟨w.heap.size, 1, none⟩) hlt).trans (cell_new w _ 54 1)
  have f0 := ((bcell hb2).2 w.heap.size 0 hlt).trans (frozen_new w _ 54 0)
  have f1 := ((bcell hb2).2 w.heap.size 1 hlt).trans (frozen_new w _ 54 1)
  have hz : w.heap.size < w2.heap.size := lt_of_cell c0
  have hr2' : Row w2 (w.heap.size + 1) v2 (nn es) := by simpa using hr2
  obtain ⟨A2, c2, rfl, hi2⟩ := Row.form hr2'
  have hi2 := hi2 1000 (by rw [nn_len]; exact hl2) (by omega)
  rw [nn_len] at *
  have HR2 := Lib.hid hr2'
  have H2 := Lib.hid (And.intro hs2 (And.intro hn2 (And.intro hv2 hl2)))
  have hs0 := hi2.small
  obtain ⟨k2, hk2⟩ : ∃ k, k = es.length := ⟨_, rfl⟩
  rw [← hk2] at HR2 hs0 hi2 ⊢
  have HK := Lib.hid hk2
  simp at c0 c1
  clear hi2 hs2 hn2 hv2 hb2 hlt hr2 hr2' hl2 hk2
  go_wp2_with fail
  refine bodyPost_ret (v := .agg #[.bool false, .slice A2 k2 c2]) (by simp [results, Try.results67, go_sem, c0, c1]) rfl ⟨_, rfl, ?_, ?_⟩
  · have hne : (Value.slice A2 k2 c2).ownBlock = none ∨ (Value.slice A2 k2 c2).ownBlock ≠ some w.heap.size := .inr fun e => by
      have := (World.ownsRow.lt HR2.out _ e).1
      omega
    have r3 := World.ownsRow.kept (World.ownsRow.kept HR2.out (grown_setC w2 ⟨w.heap.size, 0, none⟩ (.bool false)) hne) (grown_setC _ ⟨w.heap.size, 1, none⟩ (.slice A2 k2 c2)) hne
    exact ⟨_, es, rfl, Row.mono r3 (Nat.le_succ _), H2.out.2.2.2, H2.out.1, H2.out.2.1, H2.out.2.2.1⟩
  · exact (B2.out.setCell (Nat.le_refl _) _).setCell (Nat.le_refl _) _
end Go.Proofs.Ytfaenbaaadjbbaa

namespace Go.Proofs.Ytfaenbaaadjbbaa
open Go.RowKit

theorem grown_frozen {w w' : World} {row : Option Nat} (hg : w.grownBy w' row) {b i : Nat} (hlt : b < w.heap.size) (hne : some b ≠ row) : w'.frozen? ⟨b, i, none⟩ = w.frozen? ⟨b, i, none⟩ := by
  unfold World.frozen?; rw [hg.block b hlt hne]
theorem of_step {ds : List Nat} {m n : Nat} (h : valT ds + m * D10 ^ ds.length = n) : valT (ds ++ [m % D10]) + m / D10 * D10 ^ (ds ++ [m % D10]).length = n := by
  rw [val_snoc, List.length_append, List.length_singleton, Nat.pow_succ, ← h]
  have e := Nat.div_add_mod m D10
  have h2 : (D10 * (m / D10) + m % D10) * D10 ^ ds.length = m * D10 ^ ds.length := by rw [e]
  rw [Nat.add_mul] at h2
  have h3 : m / D10 * (D10 ^ ds.length * D10) = D10 * (m / D10) * D10 ^ ds.length := by ac_rfl
  rw [h3]; omega
theorem of_short {ds : List Nat} {m n : Nat} (h : valT ds + m * D10 ^ ds.length = n) (hm : 0 < m) (hn : n ≤ 9223372036854775807) : ds.length < 5 := by
  rcases Nat.lt_or_ge ds.length 5 with h1 | h1
  · exact h1
  · exfalso
    have h2 : D10 ^ 5 ≤ D10 ^ ds.length := Nat.pow_le_pow_right D10_pos h1
    have h3 : 1 * D10 ^ ds.length ≤ m * D10 ^ ds.length := Nat.mul_le_mul_right _ hm
    have e : D10 ^ 5 = 100000000000000000000 := by decide
    omega
set_option maxRecDepth 100000 in
set_option maxHeartbeats 2000000 in
/-- dibberref01.Of -/
theorem f39_any (n : Nat) (w : World) (hn : n ≤ 9223372036854775807) :
    Calls Try.prog 39 #[.int .i64 (n : Int)] w fun e w' => ∃ v, e = .returned v ∧ BigT w' w.heap.size v n ∧ Below w.heap.size w w' := by
  have h0 : ¬ ((n : Int) < 0) := by omega
  have HN := Lib.hid hn
  clear hn
  go_enter Try.func39, Try.ntmps39
  go_wp2_with fail
  go_loopw [0, 3] (fun x v wr => ∃ (m : Nat) (ds : List Nat), x = .int .i64 (m : Int) ∧ Row wr (w.heap.size + 1) v (nn ds) ∧ Below w.heap.size w wr ∧ w.heap.size + 1 ≤ wr.heap.size ∧ wr.cell? ⟨w.heap.size, 0, none⟩ = some (.bool false) ∧ wr.cell? ⟨w.heap.size, 1, none⟩ = some (.slice none 0 0) ∧ wr.frozen? ⟨w.heap.size, 0, none⟩ = false ∧ wr.frozen? ⟨w.heap.size, 1, none⟩ = false ∧ Hid (SmallT ds ∧ valT ds + m * D10 ^ ds.length = n ∧ ds.length ≤ 5 ∧ m ≤ n)) (fun x _ _ => (intOf x).toNat)
  case atStart => exact ⟨n, [], rfl, Row.nil _ _, below_alloc _ _, by simp, cell_new w _ 54 0, cell_new w _ 54 1, frozen_new w _ 54 0, frozen_new w _ 54 1, fun j => by rw [List.getD_eq_getElem?_getD]; exact D10_pos, by simp [valT, valTd], by simp, Nat.le_refl _⟩
  case round => as_aux_lemma =>
    obtain ⟨m, ds, rfl, hrow, hbel, hsz, hc0, hc1, hf0, hf1, hd⟩ := hrel
    have HRW := Lib.hid hrow
    have HB := Lib.hid hbel
    clear hrow hbel
    have hm6 : m ≤ 9223372036854775807 := Nat.le_trans hd.out.2.2.2 HN.out
    rcases Nat.eq_zero_or_pos m with hm | hm
    · subst hm
      obtain ⟨A, c, rfl, hi⟩ := Row.form HRW.out
      have hi := hi 1000 (by rw [nn_len]; have := hd.out.2.2.1; omega) (by omega)
      rw [nn_len] at *
      have k67 := Lib.hid (f67_any A ds c wr hi hd.out.1 (by have := hd.out.2.2.1; omega))
      have hv : valT ds = n := by have := hd.out.2.1; omega
      rw [hv] at k67
      generalize ds.length = k at *
      clear hi hd
      go_wp2_with fail
      refine k67.out.mono ?_
      rintro e w2 ⟨v2, rfl, hg2, hb2⟩
      obtain ⟨A2, es, c2, rfl, -⟩ := hg2.form
      generalize es.length = k2 at *
      have hlt : w.heap.size < wr.heap.size := by omega
      have c0 := (hb2.cell (p := ⟨w.heap.size, 0, none⟩) hlt).trans hc0
      have c1 := (hb2.cell (p := ⟨w.heap.size, 1, none⟩) hlt).trans hc1
      have f0 := ((bcell hb2).2 w.heap.size 0 hlt).trans hf0
      have f1 := ((bcell hb2).2 w.heap.size 1 hlt).trans hf1
      have hz2 : w.heap.size < w2.heap.size := lt_of_cell c0
      have B2 := Lib.hid (below_step HB.out hb2)
      have HG2 : Hid (BigT w2 (w.heap.size + 1) (.agg #[.bool false, .slice A2 k2 c2]) n) := BigT.mono hg2 hsz
      clear hg2 hb2 hlt hc0 hc1 hf0 hf1
      go_wp2_with fail
      refine bodyPost_ret (v := .agg #[.bool false, .slice A2 k2 c2]) (by simp [results, Try.results39, go_sem, c0, c1]) rfl ⟨_, rfl, ?_, ?_⟩
      · exact ((HG2.out.setC ⟨w.heap.size, 0, none⟩ (.bool false) (Nat.lt_succ_self _)).setC ⟨w.heap.size, 1, none⟩ (.slice A2 k2 c2) (Nat.lt_succ_self _)).mono (Nat.le_succ _)
      · exact (B2.out.setCell (Nat.le_refl _) _).setCell (Nat.le_refl _) _
    · have hq : ((m : Int) != 0) = true := by simp; omega
      have hr : Int.tmod (m : Int) 10000 = ((m % D10 : Nat) : Int) := by rw [Int.tmod_eq_emod_of_nonneg (by omega)]; simp [D10]
      have hdq : Int.tdiv (m : Int) 10000 = ((m / D10 : Nat) : Int) := by rw [Int.tdiv_eq_ediv_of_nonneg (by omega)]; simp [D10]
      have hlt : ¬ ((m % D10 : Nat) : Int) < 0 := by omega
      have hstep := Lib.hid (of_step hd.out.2.1)
      have hshort := Lib.hid (of_short hd.out.2.1 hm HN.out)
      have HY := Lib.hid (Nat.mod_lt m D10_pos)
      have HZ := Lib.hid (Nat.div_lt_self hm (show 1 < D10 by decide))
      generalize m % D10 = y at *
      generalize m / D10 = z at *
      go_wp2_with (at_builtin; refine wpList_push rfl (.tmp 16) (.tmp 18) rfl (w.heap.size + 1) _ (nn ds) rfl (HRW.out.alloc _) wr.heap.size 1 (y : Int) rfl (cell_new wr _ 3 0) (by rw [nn_len]; have := hshort.out; omega) (by simp; omega) ?_; intro v2 w4 hr4 hg4)
      have hlt : w.heap.size < (wr.alloc (.cells #[.int .i64 (y : Int)] 3)).heap.size := by simp; omega
      have hrz : Row (wr.alloc (.cells #[.int .i64 (y : Int)] 3)) (w.heap.size + 1) _ (nn ds) := HRW.out.alloc _
      have hne : ∀ u : Value, Row (wr.alloc (.cells #[.int .i64 (y : Int)] 3)) (w.heap.size + 1) u (nn ds) → some w.heap.size ≠ u.ownBlock := fun u hu e => by
        have := (World.ownsRow.lt hu _ e.symm).1
        omega
      have hne := hne _ hrz
      have ho : ∀ i, (wr.alloc (.cells #[.int .i64 (y : Int)] 3)).cell? ⟨w.heap.size, i, none⟩ = wr.cell? ⟨w.heap.size, i, none⟩ ∧ (wr.alloc (.cells #[.int .i64 (y : Int)] 3)).frozen? ⟨w.heap.size, i, none⟩ = wr.frozen? ⟨w.heap.size, i, none⟩ := fun i => ⟨(bcell (below_alloc wr _)).1 w.heap.size i (by omega), (bcell (below_alloc wr _)).2 w.heap.size i (by omega)⟩
      have e : nn ds ++ [(y : Int)] = nn (ds ++ [y]) := nn_snoc ds y
      rw [e] at hr4
      have hz9 : wrap64 (z : Int) = (z : Int) := by have := HZ.out; have hd6 := hd.out.2.2.2; unfold wrap64; omega
      rw [hz9]
      refine ⟨⟨z, ds ++ [y], rfl, hr4, below_grown (HB.out.alloc (by omega) _) hg4 (by simp; omega) (hrz.mono (Nat.le_succ _)) (Nat.le_refl _), ?_, ?_, ?_, ?_, ?_, ?_⟩, ?_⟩
      · have := hg4.size; simp at this; omega
      · exact (hg4.cell ((ho 0).1.trans hc0) hne)
      · exact (hg4.cell ((ho 1).1.trans hc1) hne)
      · exact (grown_frozen hg4 hlt hne).trans ((ho 0).2.trans hf0)
      · exact (grown_frozen hg4 hlt hne).trans ((ho 1).2.trans hf1)
      · refine ⟨smallT_snoc hd.out.1 HY.out, hstep.out, ?_, ?_⟩
        · have := hshort.out; rw [List.length_append, List.length_singleton]; omega
        · have := HZ.out; have := hd.out.2.2.2; omega
      · simp [intOf]; exact HZ.out
end Go.Proofs.Ytfaenbaaadjbbaa

namespace Go.Proofs.Ytfaenbaaadjbbaa
open Go.RowKit

/-- How two numbers compare. -/
def cmpN (x y : Nat) : Int := if x < y then -1 else if y < x then 1 else 0
theorem cmpN_lt {x y : Nat} (h : x < y) : cmpN x y = -1 := by unfold cmpN; rw [if_pos h]
theorem cmpN_gt {x y : Nat} (h : y < x) : cmpN x y = 1 := by unfold cmpN; rw [if_neg (by omega), if_pos h]
theorem cmpN_eq {x y : Nat} (h : x = y) : cmpN x y = 0 := by unfold cmpN; rw [if_neg (by omega), if_neg (by omega)]
theorem cmpN_le {x y : Nat} : cmpN x y ≤ 0 ↔ x ≤ y := by
  unfold cmpN
  split
  · constructor <;> intro <;> omega
  · split
    · constructor <;> intro <;> omega
    · constructor <;> intro <;> omega
set_option maxRecDepth 100000 in
set_option maxHeartbeats 2000000 in
/-- dibberref01.cmpD -/
theorem f69_any (A B : Option Addr) (ds es : List Nat) (c d : Nat) (w : World) (ha : Ints w A ds.length (nn ds)) (hb : Ints w B es.length (nn es)) (hla : ds.length ≤ 1000) (hlb : es.length ≤ 1000)
    (hsa : SmallT ds) (hsb : SmallT es) (hna : NormT ds) (hnb : NormT es) :
    Calls Try.prog 69 #[.slice A ds.length c, .slice B es.length d] w fun e w' => e = .returned (.int .i64 (cmpN (valT ds) (valT es))) ∧ ∃ q, w' = w.drewN q := by
  have HA := Lib.hid ha
  have HB := Lib.hid hb
  have HS := Lib.hid (And.intro hsa (And.intro hsb (And.intro hna hnb)))
  have hlt1 : Hid (ds.length < es.length → cmpN (valT ds) (valT es) = -1) := fun h => cmpN_lt (shorterT_lt hsa hnb h)
  have hgt1 : Hid (es.length < ds.length → cmpN (valT ds) (valT es) = 1) := fun h => cmpN_gt (shorterT_lt hsb hna h)
  have heq : Hid (ds.length = es.length → valT ds = valTd ds ds.length ∧ valT es = valTd es ds.length) := fun h => ⟨rfl, by unfold valT; rw [h]⟩
  obtain ⟨x, hx⟩ : ∃ x, x = valT ds := ⟨_, rfl⟩
  obtain ⟨y, hy⟩ : ∃ y, y = valT es := ⟨_, rfl⟩
  obtain ⟨r, hr⟩ : ∃ r, r = cmpN x y := ⟨_, rfl⟩
  rw [← hx, ← hy] at heq
  rw [← hx, ← hy, ← hr] at hlt1 hgt1 ⊢
  have HR := Lib.hid hr
  generalize ds.length = n at *
  generalize es.length = m at *
  clear ha hb hsa hsb hna hnb hx hy hr
  rcases Nat.lt_trichotomy n m with h | h | h
  · have e := hlt1.out h
    subst e
    have h1 : (n : Int) < (m : Int) := by omega
    clear h
    go_enter Try.func69, Try.ntmps69
    go_wp2
    go_ret
    exact ⟨rfl, 0, rfl⟩
  · subst h
    have h1 : ¬ (n : Int) < (n : Int) := by omega
    have he := Lib.hid (heq.out rfl)
    clear hlt1 hgt1 heq
    go_enter Try.func69, Try.ntmps69
    go_wp2
    go_loopw [5] (fun i wr => ∃ j : Nat, j ≤ n ∧ i = .int .i64 ((j : Int) - 1) ∧ Hid (∀ t, j ≤ t → t < n → ds.getD t 0 = es.getD t 0) ∧ ∃ q, wr = w.drewN q) (fun i _ => (intOf i + 1).toNat)
    case atStart => exact ⟨n, Nat.le_refl _, by go_num, fun t h2 h3 => absurd h3 (by omega), 0, rfl⟩
    case round => as_aux_lemma =>
      obtain ⟨j, hj, rfl, hsame, q, rfl⟩ := hrel
      rcases Nat.eq_zero_or_pos j with hj0 | hj0
      · subst hj0
        have hr0 : r = 0 := by
          rw [HR.out, he.out.1, he.out.2]
          exact cmpN_eq (valTd_congr fun t ht => hsame.out t (by omega) ht)
        subst hr0
        have h3 : ¬ (0 : Int) ≤ ((0 : Nat) : Int) - 1 := by omega
        go_wp2
        go_ret
        exact ⟨rfl, q, rfl⟩
      · obtain ⟨u, rfl⟩ : ∃ u, j = u + 1 := ⟨j - 1, by omega⟩
        have e1 : ((u + 1 : Nat) : Int) - 1 = (u : Int) := by omega
        rw [e1] at *
        obtain ⟨b1, o1, rfl, h1a⟩ := HA.out.at_ (show u < n by omega)
        obtain ⟨b2, o2, rfl, h2a⟩ := HB.out.at_ (show u < n by omega)
        rw [nn_get] at h1a h2a
        have u0 : (0 : Int) ≤ (u : Int) := by omega
        have u1 : (u : Int) < (n : Int) := by omega
        have hw : IntKind.i64.wrap ((u : Int) - 1) = (u : Int) - 1 := by rw [IntWalk.i64_in _ (by omega)]
        rcases Nat.lt_trichotomy (ds.getD u 0) (es.getD u 0) with h | h | h
        · have e : r = -1 := by
            rw [HR.out, he.out.1, he.out.2]
            exact cmpN_lt (digitT_lt HS.out.1 (i := u) (by omega) (fun t h2 h3 => hsame.out t (by omega) h3) h)
          subst e
          generalize ds.getD u 0 = p1 at *
          generalize es.getD u 0 = p2 at *
          have hq : (p1 : Int) < (p2 : Int) := by omega
          clear h
          go_wp2
          go_quiet (fail)
          go_wp2
          go_ret
          exact ⟨rfl, by first | exact ⟨_, rfl⟩ | exact ⟨_, World.drewN_drewN _ _ _⟩⟩
        · have hs2 : Hid (∀ t, u ≤ t → t < n → ds.getD t 0 = es.getD t 0) := fun t h2 h3 => by
            rcases Nat.lt_or_ge u t with h4 | h4
            · exact hsame.out t (by omega) h3
            · obtain rfl : t = u := by omega
              exact h
          generalize ds.getD u 0 = p1 at *
          generalize es.getD u 0 = p2 at *
          subst h
          have hq : ¬ (p1 : Int) < (p1 : Int) := by omega
          have hq2 : (u : Int) - 1 + 1 = (u : Int) := by omega
          go_wp2
          go_quiet (fail)
          go_wp2
          go_quiet (fail)
          go_wp2
          go_roundw
          case rel => exact ⟨u, by omega, by go_num, hs2, by first | exact ⟨_, rfl⟩ | exact ⟨_, World.drewN_drewN _ _ _⟩ | (rw [World.drewN_drewN, World.drewN_drewN]; exact ⟨_, rfl⟩)⟩
          case measure => simp [intOf]
        · have e : r = 1 := by
            rw [HR.out, he.out.1, he.out.2]
            exact cmpN_gt (digitT_lt HS.out.2.1 (i := u) (by omega) (fun t h2 h3 => (hsame.out t (by omega) h3).symm) h)
          subst e
          generalize ds.getD u 0 = p1 at *
          generalize es.getD u 0 = p2 at *
          have hq : ¬ (p1 : Int) < (p2 : Int) := by omega
          have hq2 : (p2 : Int) < (p1 : Int) := by omega
          clear h
          go_wp2
          go_quiet (fail)
          go_wp2
          go_quiet (fail)
          go_wp2
          go_ret
          exact ⟨rfl, by first | exact ⟨_, rfl⟩ | exact ⟨_, World.drewN_drewN _ _ _⟩ | (rw [World.drewN_drewN, World.drewN_drewN]; exact ⟨_, rfl⟩)⟩
  · have e := hgt1.out h
    subst e
    have h1 : ¬ (n : Int) < (m : Int) := by omega
    have h2 : (m : Int) < (n : Int) := by omega
    clear h
    go_enter Try.func69, Try.ntmps69
    go_wp2
    go_ret
    exact ⟨rfl, 0, rfl⟩
set_option maxRecDepth 100000 in
set_option maxHeartbeats 2000000 in
/-- dibberref01.Compare -/
theorem f40_any (v1 v2 : Value) (b1 b2 x y : Nat) (w : World) (h1 : BigT w b1 v1 x) (h2 : BigT w b2 v2 y) :
    Calls Try.prog 40 #[v1, v2] w fun e w' => e = .returned (.int .i64 (cmpN x y)) ∧ Below w.heap.size w w' := by
  obtain ⟨A, ds, c, rfl, hi1, hl1, hs1, hn1, rfl⟩ := h1.form
  obtain ⟨B, es, d, rfl, hi2, hl2, hs2, hn2, rfl⟩ := h2.form
  have k69 : Hid (∀ w1, Below w.heap.size w w1 → Calls Try.prog 69 #[.slice A ds.length c, .slice B es.length d] w1 fun e w' => e = .returned (.int .i64 (cmpN (valT ds) (valT es))) ∧ ∃ q, w' = w1.drewN q) := fun w1 hb => f69_any A B ds es c d w1 (hi1.below hb) (hi2.below hb) hl1 hl2 hs1 hs2 hn1 hn2
  generalize cmpN (valT ds) (valT es) = r at *
  have hk1 := hi1.small
  have hk2 := hi2.small
  generalize ds.length = n at *
  generalize es.length = m at *
  clear h1 h2 hi1 hi2 hl1 hl2 hs1 hs2 hn1 hn2
  go_enter Try.func40, Try.ntmps40
  go_wp2_with fail
  have hb2 : Below w.heap.size w ((w.alloc (.cells #[.bool false, .slice A n c] 54)).alloc (.cells #[.bool false, .slice B m d] 54)) := below_step (below_alloc w _) (below_alloc _ _)
  refine (k69.out _ hb2).mono ?_
  rintro e w2 ⟨rfl, q, rfl⟩
  have c0 : (((w.alloc (.cells #[.bool false, .slice A n c] 54)).alloc (.cells #[.bool false, .slice B m d] 54)).drewN q).cell? ⟨w.heap.size, 0, none⟩ = some (.bool false) := ((bcell (below_alloc (w.alloc (.cells #[.bool false, .slice A n c] 54)) _)).1 w.heap.size 0 (by simp)).trans (cell_new w _ 54 0)
  have hb3 := Lib.hid (below_drewN hb2 q)
  clear hb2
  go_wp2
  go_ret
  exact ⟨rfl, hb3.out⟩
end Go.Proofs.Ytfaenbaaadjbbaa

namespace Go.Proofs.Ytfaenbaaadjbbaa
open Go.RowKit

set_option maxRecDepth 100000 in
set_option maxHeartbeats 4000000 in
/-- dibberref01.mulD -/
theorem f68_any (A B : Option Addr) (xs ys : List Nat) (c d : Nat) (w : World) (ha : Ints w A xs.length (nn xs)) (hb : Ints w B ys.length (nn ys)) (hla : xs.length ≤ 400) (hlb : ys.length ≤ 400)
    (hsa : SmallT xs) (hsb : SmallT ys) :
    Calls Try.prog 68 #[.slice A xs.length c, .slice B ys.length d] w (SlD w (valT xs * valT ys)) := by
  have HX := Lib.hid ha
  have HY := Lib.hid hb
  have HSX := Lib.hid hsa
  have HSY := Lib.hid hsb
  obtain ⟨v, hv⟩ : ∃ v, v = valT ys := ⟨_, rfl⟩
  obtain ⟨u, hu⟩ : ∃ u, u = valT xs := ⟨_, rfl⟩
  rw [← hv, ← hu]
  obtain ⟨n, hn⟩ : ∃ n, n = xs.length := ⟨_, rfl⟩
  obtain ⟨m, hm⟩ : ∃ m, m = ys.length := ⟨_, rfl⟩
  have HXV : Hid (valTd xs n = u) := by rw [hu, hn]; rfl
  have HYV : Hid (valTd ys m = v) := by rw [hv, hm]; rfl
  rw [← hn] at HX hla ⊢
  rw [← hm] at HY hlb ⊢
  have hmk := make_ints (n + m) (by omega) w
  rw [Int.natCast_add] at hmk
  obtain ⟨w1, hw1⟩ : ∃ w1, w1 = w.alloc (.cells ((List.replicate (n + m) (0 : Int)).map (Value.int .i64)).toArray 3) := ⟨_, rfl⟩
  rw [← hw1] at hmk
  have B1 : Hid (Below w.heap.size w w1) := by rw [hw1]; exact below_alloc _ _
  have HO : Hid (Own w1 w.heap.size (nn (List.replicate (n + m) 0))) := by rw [hw1, ← nn_zeros]; exact Own.made w _
  have hpow : Hid (∀ j, valTd xs j * v + xs.getD j 0 * v * D10 ^ j = valTd xs (j + 1) * v) := fun j => by
    show _ = (valTd xs j + xs.getD j 0 * D10 ^ j) * v
    rw [Nat.add_mul]; congr 1; ac_rfl
  clear ha hb hsa hsb hv hu hn hm hw1
  go_enter Try.func68, Try.ntmps68
  go_wp2
  go_loopw [6] (fun i wr => ∃ (k : Nat) (O : List Nat), k ≤ n ∧ i = .int .i64 (k : Int) ∧ Own wr w.heap.size (nn O) ∧ Hid (O.length = n + m ∧ SmallT O ∧ valTd O (n + m) = valTd xs k * v ∧ ∀ j, k + m ≤ j → O.getD j 0 = 0) ∧ Below w.heap.size w wr) (fun i _ => n - (intOf i).toNat)
  case atStart => exact ⟨0, _, by omega, rfl, HO.out, ⟨by simp, smallT_zeros _, by rw [valTd_zeros (Nat.zero_le _) (fun j _ _ => zerosT_get _ _)]; simp [valTd], fun j _ => zerosT_get _ _⟩, B1.out⟩
  case round => as_aux_lemma =>
    obtain ⟨i, O, hi, rfl, hown, hO, hb⟩ := hrel
    have HOO := Lib.hid hown
    have HB := Lib.hid hb
    have hwx := HX.out.below hb
    by_cases hlt : i < n
    · obtain ⟨bx, ox, rfl, hcx⟩ := hwx.at_ hlt
      rw [nn_get] at hcx
      have hxs : Hid (xs.getD i 0 < D10) := HSX.out i
      have hnext := Lib.hid (hpow.out i)
      have HXC : Hid (∀ W, Below w.heap.size w W → W.cell? ⟨bx, ox + i, none⟩ = some (.int .i64 (xs.getD i 0 : Int))) := fun W h => by
        have := HX.out.below h
        obtain ⟨b2, o2, e, h2⟩ := this.at_ hlt
        injection e with e; injection e with e1 e2; subst e1 e2
        rw [nn_get] at h2; exact h2
      generalize xs.getD i 0 = x at *
      have hstart : Hid (O.length = n + m ∧ SmallT O ∧ valTd O (n + m) + 0 * D10 ^ (i + 0) = valTd xs i * v + x * valTd ys 0 * D10 ^ i ∧ ∀ j, i + m ≤ j → O.getD j 0 = 0) := ⟨hO.out.1, hO.out.2.1, by rw [hO.out.2.2.1]; simp [valTd], hO.out.2.2.2⟩
      clear hown hb hwx hO hcx
      go_wp2
      go_loopw [7, 8] (fun cy j wr => ∃ (k : Nat) (O : List Nat) (cc : Nat), k ≤ m ∧ j = .int .i64 (k : Int) ∧ cy = .int .i64 (cc : Int) ∧ cc < 10000 ∧ Own wr w.heap.size (nn O) ∧ Hid (O.length = n + m ∧ SmallT O ∧ valTd O (n + m) + cc * D10 ^ (i + k) = valTd xs i * v + x * valTd ys k * D10 ^ i ∧ ∀ j, i + m ≤ j → O.getD j 0 = 0) ∧ Below w.heap.size w wr) (fun _ j _ => m - (intOf j).toNat)
      case atStart => exact ⟨0, O, 0, by omega, rfl, rfl, by omega, HOO.out, hstart.out, HB.out⟩
      case round => as_aux_lemma =>
        obtain ⟨k, O, cc, hk, rfl, rfl, hcc, hown, hO, hb⟩ := hrel
        have HOO := Lib.hid hown
        have HB := Lib.hid hb
        have hwy := HY.out.below hb
        have hOl := hO.out.1
        by_cases hlt2 : k < m
        · obtain ⟨by_, oy, rfl, hcy⟩ := hwy.at_ hlt2
          rw [nn_get] at hcy
          have hcx := HXC.out wr hb
          have hys : ys.getD k 0 < D10 := HSY.out k
          have hkey := Lib.hid (mulT_step (L := n + m) (b := ys.getD k 0) (by rw [hOl]; omega) (by omega) hO.out.2.2.1)
          have hys2 : Hid (valTd ys k + ys.getD k 0 * D10 ^ k = valTd ys (k + 1)) := rfl
          rw [hys2.out] at hkey
          have hzero : Hid (∀ z, ∀ j, i + m ≤ j → (O.set (i + k) z).getD j 0 = 0) := fun z j hj => by
            rw [getN_setT _ _ _ _ (by omega), if_neg (by omega)]; exact hO.out.2.2.2 j hj
          obtain ⟨J, hJ⟩ : ∃ J, J = i + k := ⟨_, rfl⟩
          have eJ : (i : Int) + (k : Int) = (J : Int) := by omega
          rw [← hJ] at hkey hzero
          have hJ2 : J < n + m := by omega
          have hco := hown.cell J (by rw [nn_len]; omega)
          rw [nn_get] at hco
          have hfz := hown.frozen J
          have hos : O.getD J 0 < D10 := hO.out.2.1 J
          have hsmO := Lib.hid hO.out.2.1
          generalize ys.getD k 0 = y at *
          generalize O.getD J 0 = o at *
          have hxy := mul_lt_T (a := x) (b := y) hxs.out hys
          obtain ⟨P, hP⟩ : ∃ P, P = x * y := ⟨_, rfl⟩
          have p1 : (x : Int) * (y : Int) = (P : Int) := by rw [hP, Int.natCast_mul]
          rw [← hP] at hxy hkey
          have d10 : D10 = 10000 := rfl
          rw [d10] at hxy hos hys
          obtain ⟨Q, hQ⟩ : ∃ Q, Q = P + o := ⟨_, rfl⟩
          have p2 : (o : Int) + (P : Int) = (Q : Int) := by omega
          obtain ⟨R, hR⟩ : ∃ R, R = cc + Q := ⟨_, rfl⟩
          have p3 : (Q : Int) + (cc : Int) = (R : Int) := by omega
          rw [← hQ, ← hR] at hkey
          have hRb : R < 100000000 := by omega
          have r1 : Int.tmod (R : Int) 10000 = ((R % D10 : Nat) : Int) := by rw [Int.tmod_eq_emod_of_nonneg (by omega)]; simp [D10]
          have r2 : Int.tdiv (R : Int) 10000 = ((R / D10 : Nat) : Int) := by rw [Int.tdiv_eq_ediv_of_nonneg (by omega)]; simp [D10]
          have hlo : R % D10 < D10 := Nat.mod_lt _ D10_pos
          have hhi : R / D10 < 10000 := Nat.div_lt_of_lt_mul (by rw [d10]; omega)
          have hkey2 : Hid (∀ lo hi, lo = R % D10 → hi = R / D10 → valTd (O.set J lo) (n + m) + hi * D10 ^ (i + (k + 1)) = valTd xs i * v + x * valTd ys (k + 1) * D10 ^ i) := fun lo hi h1 h2 => by rw [h1, h2]; exact hkey.out
          have hkey4 := Lib.hid (hkey2.out _ _ rfl rfl)
          generalize R % D10 = lo at *
          generalize R / D10 = hi at *
          have hlo2 := Lib.hid hlo
          have hp9 : P < 100000000 := by omega
          have hq9 : Q < 100000000 := by omega
          clear hown hb hwy hkey hkey2 hO hys2 hP hQ hR hJ hlo
          go_wp2
          go_quiet (fail)
          go_wp2
          have hset : Own ((wr.drewN nq).setCell ⟨w.heap.size, J, none⟩ (.int .i64 (lo : Int))) w.heap.size (nn (O.set J lo)) := by
            rw [← nn_set]
            exact (HOO.out.drewN nq).set_ J (lo : Int)
          exact ⟨⟨k + 1, O.set J lo, hi, by omega, by go_num, rfl, hhi, hset, ⟨by rw [List.length_set]; exact hOl, smallT_set hsmO.out J lo (by omega) hlo2.out, hkey4.out, hzero.out lo⟩, (below_drewN HB.out nq).setCell (Nat.le_refl _) _⟩, by simp [intOf]; omega⟩
        · obtain rfl : k = m := by omega
          obtain ⟨J, hJ⟩ : ∃ J, J = i + k := ⟨_, rfl⟩
          have eJ : (i : Int) + (k : Int) = (J : Int) := by omega
          have hJ2 : J < n + k := by omega
          have hco := hown.cell J (by rw [nn_len]; omega)
          have hfz := hown.frozen J
          have hfin : Hid ((O.set J cc).length = n + k ∧ SmallT (O.set J cc) ∧ valTd (O.set J cc) (n + k) = valTd xs (i + 1) * v ∧ ∀ j, i + 1 + k ≤ j → (O.set J cc).getD j 0 = 0) := by
            refine ⟨by rw [List.length_set]; exact hOl, smallT_set hO.out.2.1 J cc (by omega) hcc, ?_, fun j hj => ?_⟩
            · have h1 := valTd_set O J cc (n + k) (by omega) hJ2
              rw [hO.out.2.2.2 J (by omega), Nat.zero_mul, Nat.add_zero] at h1
              rw [h1, hJ, hO.out.2.2.1, HYV.out]
              exact hnext.out
            · rw [getN_setT _ _ _ _ (by omega), if_neg (by omega)]; exact hO.out.2.2.2 j (by omega)
          have hset : Hid (Own (wr.setCell ⟨w.heap.size, J, none⟩ (.int .i64 (cc : Int))) w.heap.size (nn (O.set J cc))) := by
            rw [← nn_set]
            exact HOO.out.set_ J (cc : Int)
          clear hown hb hwy hO hJ
          go_wp2
          go_roundw
          case rel => exact ⟨i + 1, O.set J cc, by omega, by go_num, hset.out, hfin.out, HB.out.setCell (Nat.le_refl _) _⟩
          case measure => simp [intOf]; omega
    · obtain rfl : i = n := by omega
      have hval : valT O = u * v := by
        unfold valT
        rw [hO.out.1, hO.out.2.2.1, HXV.out]
      have hi9 : Ints wr (some ⟨w.heap.size, 0, none⟩) O.length (nn O) := hown.ints' (nn_len O) (by rw [hO.out.1]; omega)
      have k83 := Lib.hid (f83_any _ O (i + m) wr hi9 hO.out.2.1 (by rw [hO.out.1]; omega))
      rw [hval, hO.out.1] at k83
      have HSZ := Lib.hid hb.size
      clear hown hb hwx hval hO hi9
      go_wp2_with fail
      refine k83.out.mono ?_
      rintro e w2 ⟨v2, es, rfl, hr2, hl2, hs2, hn2, hv2, hb2⟩
      have R2 : Hid (SlD w (u * v) (.returned v2) w2) := ⟨v2, es, rfl, hr2.mono HSZ.out, hl2, hs2, hn2, hv2, below_step HB.out hb2⟩
      clear hr2 hl2 hs2 hn2 hv2 hb2
      go_wp2
      go_ret
      exact R2.out
end Go.Proofs.Ytfaenbaaadjbbaa

namespace Go.Proofs.Ytfaenbaaadjbbaa
open Go.RowKit

theorem SlD.form {w w' : World} {N : Nat} {e : Ending} (h : SlD w N e w') : ∃ (A : Option Addr) (ds : List Nat) (c : Nat), e = .returned (.slice A ds.length c) ∧ Ints w' A ds.length (nn ds) ∧ ds.length ≤ 1000 ∧ SmallT ds ∧ valT ds = N ∧ Below w.heap.size w w' := by
  obtain ⟨v, ds, rfl, hr, hl, hs, hn, hv, hb⟩ := h
  obtain ⟨A, c, rfl, hi⟩ := Row.form hr
  have hi := hi 1000 (by rw [nn_len]; exact hl) (by omega)
  rw [nn_len] at hi
  exact ⟨A, ds, c, by rw [nn_len], hi, hl, hs, hv, hb⟩
/-- Three numbers laid down one after the other. -/
theorem three_new (w : World) (x y z : Array Value) : ∃ w3, w3 = ((w.alloc (.cells x 54)).alloc (.cells y 54)).alloc (.cells z 54) ∧ Below w.heap.size w w3 ∧ w3.heap.size = w.heap.size + 3
    ∧ (∀ i, w3.cell? ⟨w.heap.size, i, none⟩ = x[i]?) ∧ (∀ i, w3.cell? ⟨w.heap.size + 1, i, none⟩ = y[i]?) ∧ (∀ i, w3.cell? ⟨w.heap.size + 1 + 1, i, none⟩ = z[i]?) ∧ (∀ i, w3.frozen? ⟨w.heap.size + 1 + 1, i, none⟩ = false) := by
  refine ⟨_, rfl, below_step (below_step (below_alloc w _) (below_alloc _ _)) (below_alloc _ _), by simp, fun i => ?_, fun i => ?_, fun i => ?_, fun i => ?_⟩
  · exact ((bcell (below_alloc _ _)).1 _ _ (by simp; omega)).trans (((bcell (below_alloc _ _)).1 _ _ (by simp)).trans (cell_new w _ 54 i))
  · have h := cell_new (w.alloc (.cells x 54)) y 54 i
    have e : (w.alloc (.cells x 54)).heap.size = w.heap.size + 1 := by simp
    rw [e] at h
    exact ((bcell (below_alloc _ _)).1 _ _ (by simp)).trans h
  · have h := cell_new ((w.alloc (.cells x 54)).alloc (.cells y 54)) z 54 i
    have e : ((w.alloc (.cells x 54)).alloc (.cells y 54)).heap.size = w.heap.size + 1 + 1 := by simp
    rw [e] at h; exact h
  · have h := frozen_new ((w.alloc (.cells x 54)).alloc (.cells y 54)) z 54 i
    have e : ((w.alloc (.cells x 54)).alloc (.cells y 54)).heap.size = w.heap.size + 1 + 1 := by simp
    rw [e] at h; exact h
set_option maxRecDepth 100000 in
set_option maxHeartbeats 4000000 in
/-- dibberref01.Times -/
theorem f38_any (v1 v2 : Value) (b1 b2 x y : Nat) (w : World) (h1 : BigT w b1 v1 x) (h2 : BigT w b2 v2 y) (hx : x < D10 ^ 400) (hy : y < D10 ^ 400) :
    Calls Try.prog 38 #[v1, v2] w fun e w' => ∃ v, e = .returned v ∧ BigT w' w.heap.size v (x * y) ∧ Below w.heap.size w w' := by
  obtain ⟨A, ds, c, rfl, hi1, hl1, hs1, hn1, rfl⟩ := h1.form
  obtain ⟨B, es, d, rfl, hi2, hl2, hs2, hn2, rfl⟩ := h2.form
  have k68 : Hid (∀ w1, Below w.heap.size w w1 → Calls Try.prog 68 #[.slice A ds.length c, .slice B es.length d] w1 (SlD w1 (valT ds * valT es))) := fun w1 hb => f68_any A B ds es c d w1 (hi1.below hb) (hi2.below hb) (normT_len hn1 400 hx) (normT_len hn2 400 hy) hs1 hs2
  generalize valT ds * valT es = r at *
  have hk1 := hi1.small
  have hk2 := hi2.small
  generalize ds.length = n at *
  generalize es.length = m at *
  clear h1 h2 hi1 hi2 hl1 hl2 hs1 hs2 hn1 hn2 hx hy
  obtain ⟨w3, hw3, hb3, hz3, ha, hb, hc, hf⟩ := three_new w #[.bool false, .slice A n c] #[.bool false, .slice B m d] #[.bool false, .slice none 0 0]
  have a0 := ha 0
  have a1 := ha 1
  have e0 := hb 0
  have e1 := hb 1
  simp at a0 a1 e0 e1
  have R0 : Hid (∀ W, Below w3.heap.size w3 W → (W.cell? ⟨w.heap.size, 0, none⟩ = some (.bool false) ∧ W.cell? ⟨w.heap.size, 1, none⟩ = some (.slice A n c) ∧ W.cell? ⟨w.heap.size + 1, 0, none⟩ = some (.bool false) ∧ W.cell? ⟨w.heap.size + 1, 1, none⟩ = some (.slice B m d))) := fun W h => ⟨((bcell h).1 _ _ (by omega)).trans a0, ((bcell h).1 _ _ (by omega)).trans a1, ((bcell h).1 _ _ (by omega)).trans e0, ((bcell h).1 _ _ (by omega)).trans e1⟩
  have RC : Hid (∀ W, Below w3.heap.size w3 W → (W.cell? ⟨w.heap.size + 1 + 1, 0, none⟩ = some (.bool false) ∧ W.cell? ⟨w.heap.size + 1 + 1, 1, none⟩ = some (.slice none 0 0) ∧ W.frozen? ⟨w.heap.size + 1 + 1, 0, none⟩ = false ∧ W.frozen? ⟨w.heap.size + 1 + 1, 1, none⟩ = false)) := fun W h => ⟨((bcell h).1 _ _ (by omega)).trans (hc 0), ((bcell h).1 _ _ (by omega)).trans (hc 1), ((bcell h).2 _ _ (by omega)).trans (hf 0), ((bcell h).2 _ _ (by omega)).trans (hf 1)⟩
  have RK : Hid (∀ (W : World) (u0 u1 : Value), (W.cell? ⟨w.heap.size, 0, none⟩ = some (.bool false) ∧ W.cell? ⟨w.heap.size, 1, none⟩ = some (.slice A n c) ∧ W.cell? ⟨w.heap.size + 1, 0, none⟩ = some (.bool false) ∧ W.cell? ⟨w.heap.size + 1, 1, none⟩ = some (.slice B m d)) →
      (((W.setCell ⟨w.heap.size + 1 + 1, 0, none⟩ u0).setCell ⟨w.heap.size + 1 + 1, 1, none⟩ u1).cell? ⟨w.heap.size, 0, none⟩ = some (.bool false) ∧ ((W.setCell ⟨w.heap.size + 1 + 1, 0, none⟩ u0).setCell ⟨w.heap.size + 1 + 1, 1, none⟩ u1).cell? ⟨w.heap.size, 1, none⟩ = some (.slice A n c) ∧ ((W.setCell ⟨w.heap.size + 1 + 1, 0, none⟩ u0).setCell ⟨w.heap.size + 1 + 1, 1, none⟩ u1).cell? ⟨w.heap.size + 1, 0, none⟩ = some (.bool false) ∧ ((W.setCell ⟨w.heap.size + 1 + 1, 0, none⟩ u0).setCell ⟨w.heap.size + 1 + 1, 1, none⟩ u1).cell? ⟨w.heap.size + 1, 1, none⟩ = some (.slice B m d))) := fun W u0 u1 ⟨h1, h2, h3, h4⟩ => by
    have g : ∀ (b i : Nat) (v : Value), b < w.heap.size + 1 + 1 → W.cell? ⟨b, i, none⟩ = some v → ((W.setCell ⟨w.heap.size + 1 + 1, 0, none⟩ u0).setCell ⟨w.heap.size + 1 + 1, 1, none⟩ u1).cell? ⟨b, i, none⟩ = some v := fun b i v hb h =>
      (grown_setC _ _ _).cell ((grown_setC _ _ _).cell h (fun e => by injection e with e; simp at e; omega)) (fun e => by injection e with e; simp at e; omega)
    exact ⟨g _ _ _ (by omega) h1, g _ _ _ (by omega) h2, g _ _ _ (by omega) h3, g _ _ _ (by omega) h4⟩
  have HB3 := Lib.hid hb3
  have HZ3 := Lib.hid hz3
  clear hb3 ha hb hc hf hz3
  go_enter Try.func38, Try.ntmps38
  go_wp2_with fail
  rw [← hw3]
  clear hw3
  go_region_held3 (fun w' => w'.cell? ⟨w.heap.size, 0, none⟩ = some (.bool false) ∧ w'.cell? ⟨w.heap.size, 1, none⟩ = some (.slice A n c) ∧ w'.cell? ⟨w.heap.size + 1, 0, none⟩ = some (.bool false) ∧ w'.cell? ⟨w.heap.size + 1, 1, none⟩ = some (.slice B m d))
    (first | exact RK.out _ _ _ (R0.out _ hq2) | exact R0.out _ hq2 | exact R0.out _ hq1 | go_keep)
    (first | (go_at_call 68; refine (k68.out w3.drew (below_drewN HB3.out 1)).mono ?_; intro e w4 h4; obtain ⟨A4, ds4, c4, rfl, hi4, hl4, hs4, hv4, hb4⟩ := h4.form; have hq1 : Below w3.heap.size w3 w4 := below_step (a := w3) (b := w3.drew) (below_drewN (Below.refl _ _) 1) hb4) | (go_at_call 67; refine (f67_any A4 ds4 c4 w4 hi4 hs4 hl4).mono ?_; rintro e w5 ⟨v5, rfl, hg5, hb5⟩; rw [hv4] at hg5; obtain ⟨A5, ds5, c5, rfl, -⟩ := hg5.form; have hq2 : Below w3.heap.size w3 w5 := below_step hq1 hb5; obtain ⟨r0, r1, s0, s1⟩ := RC.out _ hq2; have HB5 := Lib.hid (below_step HB3.out hq2); have HG5 := Lib.hid (hg5.mono (show w.heap.size + 1 + 1 + 1 ≤ w4.heap.size by have := hq1.size; have := HZ3.out; omega)); generalize ds5.length = k5 at *; clear hb5 hg5))
  all_goals
    have hz : w.heap.size + 1 + 1 < w5.heap.size := lt_of_cell r0
    go_wp2_with fail
    refine bodyPost_ret (v := .agg #[.bool false, .slice A5 k5 c5]) (by simp [results, Try.results38, go_sem, r0, r1]) rfl ⟨_, rfl, ?_, ?_⟩
    · exact ((HG5.out.setC ⟨w.heap.size + 1 + 1, 0, none⟩ (.bool false) (Nat.lt_succ_self _)).setC ⟨w.heap.size + 1 + 1, 1, none⟩ (.slice A5 k5 c5) (Nat.lt_succ_self _)).mono (by omega)
    · exact (HB5.out.setCell (by show w.heap.size ≤ w.heap.size + 1 + 1; omega) _).setCell (by show w.heap.size ≤ w.heap.size + 1 + 1; omega) _
end Go.Proofs.Ytfaenbaaadjbbaa
