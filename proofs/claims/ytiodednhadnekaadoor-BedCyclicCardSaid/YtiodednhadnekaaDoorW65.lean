/- Walks: BedCyclic. -/
import Derived.Test.YtiodednhadnekaaDoorW66
import Derived.Test.YtiodednhadnekaaDoorW67
namespace Go.Proofs.YtiodednhadnekaaDoor
open Go.RowKit Go.Deep

/-- dibberlaw01.BedCyclic -/
theorem f11_any (z a b : Int) (w : World) (hz : (Lit.int .u8 z).wf = true) (ha : (Lit.int .u8 a).wf = true) (hb : (Lit.int .u8 b).wf = true) (ht : Tab w) :
    Calls Tryd.prog 11 #[.int .u8 z, .int .u8 a, .int .u8 b] w fun e w' => e = .returned (.bool true) ∧ Below w.heap.size w w' := by
  have key : ∀ x : Int, (Lit.int .u8 x).wf = true → ∃ n : Nat, x = n ∧ n < 256 := fun x h => by
    have e1 : IntKind.u8.min = 0 := by decide
    have e2 : IntKind.u8.max = 255 := by decide
    have h2 : (decide (IntKind.u8.min ≤ x) && decide (x ≤ IntKind.u8.max)) = true := h
    rw [e1, e2, Bool.and_eq_true, decide_eq_true_eq, decide_eq_true_eq] at h2
    exact ⟨x.toNat, by omega, by omega⟩
  obtain ⟨z, rfl, kz⟩ := key z hz
  obtain ⟨a, rfl, ka⟩ := key a ha
  obtain ⟨b, rfl, kb⟩ := key b hb
  by_cases h1 : Nat.gcd (1 + a % (1 + z % 7)) (1 + z % 7) = 1
  · by_cases h2 : Nat.gcd (1 + b % (1 + z % 7)) (1 + z % 7) = 1
    · rcases Nat.lt_trichotomy (1 + a % (1 + z % 7)) (1 + b % (1 + z % 7)) with h | h | h
      · exact f11_lt z a b w kz ka kb ht h1 h2 h
      · exact f11_eq z a b w kz ka kb ht h1 h2 h
      · exact f11_gt z a b w kz ka kb ht h1 h2 h
    · exact f11_yn z a b w kz ka kb ht h1 h2
  · by_cases h2 : Nat.gcd (1 + b % (1 + z % 7)) (1 + z % 7) = 1
    · exact f11_ny z a b w kz ka kb ht h1 h2
    · exact f11_nn z a b w kz ka kb ht h1 h2
end Go.Proofs.YtiodednhadnekaaDoor
