/- Walk: LuckGoal. -/
import Derived.Test.YtfaenbaaadjbbaaW32
import Derived.Test.YtfaenbaaadjbbaaPlain11
namespace Go.Proofs.Ytfaenbaaadjbbaa
open Go.RowKit

/-- A slice of bytes that reads as a list. -/
def Bytes (w : World) (A : Option Addr) (n : Nat) (xs : List Int) : Prop :=
  (0 < n → ∃ b off, A = some ⟨b, off, none⟩ ∧ ∀ j, j < n → w.cell? ⟨b, off + j, none⟩ = some (.int .u8 (xs.getD j 0))) ∧ (∀ j, 0 ≤ xs.getD j 0 ∧ xs.getD j 0 ≤ 255) ∧ n ≤ 9223372036854775807
theorem Bytes.below {w w' : World} {A : Option Addr} {n : Nat} {xs : List Int} (h : Bytes w A n xs) (hb : Below w.heap.size w w') : Bytes w' A n xs :=
  ⟨fun hn => by
    obtain ⟨b, off, e, hc⟩ := h.1 hn
    exact ⟨b, off, e, fun j hj => (hb.cell (lt_of_cell (hc j hj))).trans (hc j hj)⟩, h.2⟩
theorem bytes_of_row {w : World} {a : Option Addr} {len cap : Nat} {zs : List Int}
    (h : (a = none ∧ len = 0 ∧ cap = 0 ∧ zs = []) ∨ ∃ x, a = some x ∧ len ≤ cap ∧ cap ≤ maxLen ∧ zs.length = cap ∧ (∀ i, i < zs.length → w.cell? (x.add i) = some (.int .u8 (zs.getD i 0))) ∧ ∀ n ∈ zs, (Lit.int .u8 n).wf = true) :
    Bytes w a len zs := by
  have hz : ∀ (zs : List Int), (∀ n ∈ zs, (Lit.int .u8 n).wf = true) → ∀ j, 0 ≤ zs.getD j 0 ∧ zs.getD j 0 ≤ 255 := fun zs h j => by
    by_cases hj : j < zs.length
    · have := bounds_u8 (h _ (List.getElem_mem hj))
      simpa [List.getD_eq_getElem?_getD, hj] using this
    · simp [List.getD_eq_getElem?_getD, hj]
  rcases h with ⟨rfl, rfl, rfl, rfl⟩ | ⟨x, rfl, h1, h2, h3, h4, h5⟩
  · exact ⟨fun h => absurd h (by omega), fun j => by simp, by omega⟩
  · refine ⟨fun hp => ?_, hz zs h5, by unfold maxLen at h2; omega⟩
    obtain ⟨b, off, rfl, hc⟩ := Go.ints_at h4 (by omega)
    exact ⟨b, off, rfl, fun j hj => hc j (by omega)⟩
set_option maxRecDepth 100000 in
set_option maxHeartbeats 4000000 in
/-- dibberlaw05.LuckGoal: nothing to say -/
theorem f5_no (k folk : Int) (A B : Option Addr) (n c m d : Nat) (said : List (List Int)) (w : World) (hs : Came2 w A n said) (h : fewB (said.map List.length) 0 = false ∨ saidOk k folk said = false) :
    Calls Try.prog 5 #[.int .i64 k, .int .i64 folk, .slice A n c, .slice B m d] w fun e w' => e = .returned (.bool true) ∧ Below w.heap.size w w' := by
  have k15 := Lib.hid (f15_any A none c n 0 0 _ w hs.1 (by omega))
  cases hf : fewB (said.map List.length) 0
  · rw [hf] at k15
    clear hs hf h
    go_enter Try.func5, Try.ntmps5
    go_wp2_with fail
    refine k15.out.mono ?_
    rintro e w' ⟨rfl, rfl⟩
    go_wp2_with fail
    refine (f16_any _).mono ?_
    rintro e w6 ⟨rfl, hb6⟩
    have B6 := Lib.hid hb6
    clear hb6
    go_wp2_with fail
    go_ret
    exact ⟨rfl, B6.out⟩
  · have hok : saidOk k folk said = false := by simpa [hf] using h
    have k19 := Lib.hid (f19_any A k folk n c said w (hs.ints hf))
    rw [hf] at k15
    rw [hok] at k19
    clear hs hf h hok
    go_enter Try.func5, Try.ntmps5
    go_wp2_with fail
    refine k15.out.mono ?_
    rintro e w' ⟨rfl, rfl⟩
    go_wp2_with fail
    refine k19.out.mono ?_
    rintro e w' ⟨rfl, rfl⟩
    go_wp2_with fail
    refine (f16_any _).mono ?_
    rintro e w6 ⟨rfl, hb6⟩
    have B6 := Lib.hid hb6
    clear hb6
    go_wp2_with fail
    go_ret
    exact ⟨rfl, B6.out⟩
theorem Row.heap {w w' : World} {base : Nat} {v : Value} {xs : List Int} (h : Row w base v xs) (e : w'.heap = w.heap) : Row w' base v xs := by
  unfold Row World.ownsRow at h ⊢
  rw [e]; exact h
theorem cell_heap {w w' : World} (e : w'.heap = w.heap) (p : Addr) : w'.cell? p = w.cell? p := by unfold World.cell?; rw [e]
theorem u8_half (a : Int) (h : 0 ≤ a ∧ a ≤ 255) : a.tmod 2 = a % 2 ∧ 0 ≤ a % 2 ∧ a % 2 ≤ 1 := ⟨Int.tmod_eq_emod_of_nonneg h.1, by omega, by omega⟩
/-- What Can and Guess say of the least goals of foretellers. -/
theorem gl_law {k folk r N : Nat} {said : List (List Int)} (h1 : 1 ≤ k) (h2 : k ≤ 10) (hN : N = 2 ^ k) :
    canE k (capL said k folk r N) = 0 ∧ canR k (capL said k folk r N) = (if canB k (capL said k folk r N) = true then 1 else 0) ∧
    ∀ (ns : List Int) (j : Nat), j < k → (canB k (capL said k folk r N) = true → guE k (capL said k folk r N) (halfL ns j) = 0 ∧ ∃ x y : Nat, guX k (capL said k folk r N) (halfL ns j) = x ∧ guY k (capL said k folk r N) (halfL ns j) = y ∧ 1 ≤ y ∧ x ≤ y) ∧
      (canB k (capL said k folk r N) = false → guE k (capL said k folk r N) (halfL ns j) = 10 ∧ guX k (capL said k folk r N) (halfL ns j) = 0 ∧ guY k (capL said k folk r N) (halfL ns j) = 0) := by
  subst hN
  have hok := capL_ok (said := said) (folk := folk) (r := r) h1 h2
  generalize capL said k folk r (2 ^ k) = G at *
  refine ⟨by unfold canE; rw [if_pos hok], by unfold canR; rw [Int.toNat_natCast]; simp [hok], fun ns j hj => ?_⟩
  have harg : guArg k G (halfL ns j) = true := by
    unfold guArg
    rw [hok, halfL_bits, halfL_len, decide_eq_true (by omega : (j : Int) < (k : Int))]; rfl
  refine ⟨fun hc => ?_, fun hc => ?_⟩
  · have hE : guE k G (halfL ns j) = 0 := by unfold guE; rw [harg, Int.toNat_natCast, hc]; rfl
    have hd : 0 < 2 * denG k j := by have := denG_pos k j; omega
    refine ⟨hE, _, _, by unfold guX; rw [if_pos hE], by unfold guY; rw [if_pos hE], ?_, ?_⟩
    · rw [Int.toNat_natCast, halfL_len]; exact ratD_pos hd
    · rw [Int.toNat_natCast, halfL_len]
      have hg := gv_le k G j (bnum (halfL ns j))
      exact Nat.div_le_div_right hg
  · have hE : guE k G (halfL ns j) = 10 := by unfold guE; rw [harg, Int.toNat_natCast, hc]; rfl
    exact ⟨hE, by unfold guX; rw [hE]; rfl, by unfold guY; rw [hE]; rfl⟩
end Go.Proofs.Ytfaenbaaadjbbaa
