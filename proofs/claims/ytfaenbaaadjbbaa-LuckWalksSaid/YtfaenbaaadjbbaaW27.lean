/- Walk: LuckWalks. -/
import Derived.Test.YtfaenbaaadjbbaaW26
import Derived.Test.YtfaenbaaadjbbaaPlain2
namespace Go.Proofs.Ytfaenbaaadjbbaa
open Go.RowKit Go.Deep

/-- No slice in it is longer than its capacity. -/
def Caps (w : World) (A : Option Addr) (n : Nat) : Prop := ∀ b off, A = some ⟨b, off, none⟩ → ∀ j, j < n → ∀ B l c, w.cell? ⟨b, off + j, none⟩ = some (.slice B l c) → l ≤ c
def Came3 (w : World) (A : Option Addr) (n : Nat) (xss : List (List Int)) : Prop := Came2 w A n xss ∧ Caps w A n
theorem came3_of {w : World} {a1 : Option Addr} {len1 cap1 : Nat} {X : Prop} {Y : Addr → Nat → Nat → (Nat → Option Addr) → (Nat → Nat) → (Nat → List Int) → Prop}
    (h : ([Value.slice a1 len1 cap1] = [.slice none 0 0] ∧ X) ∨ ∃ (a : Addr) (len cap : Nat) (A : Nat → Option Addr) (L C : Nat → Nat) (Z : Nat → List Int), [Value.slice a1 len1 cap1] = [.slice (some a) len cap] ∧ 0 ≤ a.block ∧ len ≤ cap ∧ cap ≤ maxLen ∧ Y a len cap A L Z ∧
      ∀ r, r < cap → w.cell? (a.add r) = some (.slice (A r) (L r) (C r)) ∧ L r ≤ C r ∧ C r ≤ maxLen ∧ (Z r).length = C r ∧ (∀ n ∈ Z r, (Lit.int .i64 n).wf = true) ∧ (A r = none → C r = 0) ∧
        ∀ a', A r = some a' → 0 ≤ a'.block ∧ ∀ c, c < C r → w.cell? (a'.add c) = some (.int .i64 ((Z r).getD c 0))) : ∃ xss, Came3 w a1 len1 xss := by
  obtain ⟨xss, hx⟩ := came2_of h
  refine ⟨xss, hx, fun b off hA j hj B l c hc => ?_⟩
  rcases h with ⟨e, _⟩ | ⟨a, len, cap, A, L, C, Z, e, _, hl, hm, _, hr⟩
  · simp only [List.cons.injEq, Value.slice.injEq, and_true] at e
    omega
  · simp only [List.cons.injEq, Value.slice.injEq, and_true] at e
    obtain ⟨rfl, rfl, rfl⟩ := e
    injection hA with hA
    subst hA
    obtain ⟨h1, h2, _⟩ := hr j (by omega)
    rw [Go.WideShapes.add_plain, hc] at h1
    injection h1 with h1
    injection h1 with h1 h3 h4
    omega
theorem u8_rem (a : Int) (len : Nat) (h : 0 ≤ a ∧ a ≤ 255) (hp : 0 < len) : ∃ x : Nat, x < len ∧ a.tmod (len : Int) = (x : Int) ∧ a % (len : Int) = (x : Int) := by
  obtain ⟨b, rfl⟩ := nat_of a h.1
  refine ⟨b % len, Nat.mod_lt _ hp, ?_, ?_⟩
  · rw [Int.tmod_eq_emod_of_nonneg (by omega)]; simp
  · simp
/-- The first m of each list. -/
def cutL (said : List (List Int)) (m i : Nat) : List (List Int) := (List.range i).map fun j => (said.getD j []).take m
theorem cutL_len (said : List (List Int)) (m i : Nat) : (cutL said m i).length = i := by simp [cutL]
theorem cutL_get {said : List (List Int)} {m i j : Nat} (h : j < i) : (cutL said m i).getD j [] = (said.getD j []).take m := by simp [cutL, List.getD_eq_getElem?_getD, h]
/-- Each time the first one, and who says the opposite. -/
def twoL (said : List (List Int)) (i : Nat) : List (List Int) := (List.range i).map fun j => [(said.getD j []).getD 0 0, 1 - (said.getD j []).getD 0 0]
theorem twoL_len (said : List (List Int)) (i : Nat) : (twoL said i).length = i := by simp [twoL]
theorem twoL_get {said : List (List Int)} {i j : Nat} (h : j < i) : (twoL said i).getD j [] = [(said.getD j []).getD 0 0, 1 - (said.getD j []).getD 0 0] := by simp [twoL, List.getD_eq_getElem?_getD, h]
theorem bits_all {k folk : Nat} {said : List (List Int)} (h : saidOk k folk said = true) (i : Nat) (hi : i < k) : bitsB folk (said.getD i []) = true := by
  unfold saidOk at h
  rw [Bool.and_eq_true, decide_eq_true_eq, List.all_eq_true] at h
  have hil : i < said.length := by omega
  have := h.2 _ (List.getElem_mem hil)
  simpa [List.getD_eq_getElem?_getD, hil] using this
theorem cut_ok {k folk m : Nat} {said : List (List Int)} (h : saidOk k folk said = true) (hm1 : 1 ≤ m) (hm : m ≤ folk) : saidOk k m (cutL said m k) = true := by
  obtain ⟨k', f', e1, e2, h1, h2, h3, h4, h5, h6, h7⟩ := saidOk_facts h
  obtain rfl : k = k' := by omega
  obtain rfl : folk = f' := by omega
  refine saidOk_mk h1 h2 hm1 (by omega) (cutL_len _ _ _) fun i hi => ?_
  rw [cutL_get hi]
  have hb := bits_all h i hi
  unfold bitsB at hb ⊢
  rw [Bool.and_eq_true, decide_eq_true_eq, List.all_eq_true] at hb ⊢
  refine ⟨by rw [List.length_take]; omega, fun x hx => hb.2 x (List.mem_of_mem_take hx)⟩
theorem two_ok {k folk : Nat} {said : List (List Int)} (h : saidOk k folk said = true) : saidOk k 2 (twoL said k) = true := by
  obtain ⟨k', f', e1, e2, h1, h2, h3, h4, h5, h6, h7⟩ := saidOk_facts h
  obtain rfl : k = k' := by omega
  obtain rfl : folk = f' := by omega
  refine saidOk_mk (folk := 2) h1 h2 (by omega) (by omega) (twoL_len _ _) fun i hi => ?_
  rw [twoL_get hi]
  have hb := h7 i 0 hi (by omega)
  generalize (said.getD i []).getD 0 0 = x at *
  rcases hb with rfl | rfl <;> decide
/-- Everything that LuckWalks asks for. -/
theorem walks_law {k folk m : Nat} {said : List (List Int)} (h : saidOk k folk said = true) (hm1 : 1 ≤ m) (hm : m ≤ folk) :
    1 ≤ regD k folk said ∧ 2 * regN k folk said ≤ k * regD k folk said ∧ 1 ≤ regD k m (cutL said m k) ∧ ¬ regN k folk said * regD k m (cutL said m k) < regN k m (cutL said m k) * regD k folk said ∧
    (m = 1 → regN k m (cutL said m k) = 0 ∧ regD k m (cutL said m k) = 1) ∧ regN k 2 (twoL said k) * 2 * 2 ^ k = sumN (fun s => far k (onesTo s k)) (2 ^ k) * regD k 2 (twoL said k) ∧
    regN k folk said ≤ 10240 ∧ regD k folk said ≤ 1024 ∧ regN k m (cutL said m k) ≤ 10240 ∧ regD k m (cutL said m k) ≤ 1024 ∧ regN k 2 (twoL said k) ≤ 10240 ∧ regD k 2 (twoL said k) ≤ 1024 := by
  obtain ⟨k', f', e1, e2, h1, h2, h3, h4, h5, h6, h7⟩ := saidOk_facts h
  obtain rfl : k = k' := by omega
  obtain rfl : folk = f' := by omega
  have hc := cut_ok h hm1 hm
  have ht := two_ok h
  have hp : 0 < 2 ^ k := Nat.pow_pos (by omega)
  have hN : ∀ f s, regN k f s ≤ 10240 := fun f s => by
    unfold regN
    refine Nat.le_trans (ratN_le _ _) (Nat.le_trans (Nat.sub_le _ _) ?_)
    have : 2 ^ (k - 1) ≤ 1024 := pow10 _ (by omega)
    exact Nat.le_trans (Nat.mul_le_mul h2 this) (by omega)
  have hD : ∀ f s, regD k f s ≤ 1024 := fun f s => by unfold regD; exact Nat.le_trans (ratD_le _ _) (pow10 k h2)
  have hD1 : ∀ f s, 1 ≤ regD k f s := fun f s => ratD_pos hp
  have hcb : ∀ i f, i < k → f < m → ((cutL said m k).getD i []).getD f 0 = (said.getD i []).getD f 0 := fun i f hi hf => by
    rw [cutL_get hi]; simp [List.getD_eq_getElem?_getD, List.getElem?_take_of_lt hf]
  refine ⟨hD1 _ _, reg_half h1, hD1 _ _, ?_, ?_, ?_, hN _ _, hD _ _, hN _ _, hD _ _, hN _ _, hD _ _⟩
  · have := reg_fewer (said := said) (k := k) hm hcb
    omega
  · rintro rfl
    exact reg_one (bits_of hc) h1
  · exact reg_two h1 (bits_of ht) fun i hi => by rw [twoL_get hi]; rfl
end Go.Proofs.Ytfaenbaaadjbbaa
