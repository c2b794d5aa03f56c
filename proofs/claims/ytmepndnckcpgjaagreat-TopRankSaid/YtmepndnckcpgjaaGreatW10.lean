/- Walks: Greedy (both). -/
import Derived.Test.YtmepndnckcpgjaaGreatW9
namespace Go.Proofs.YtmepndnckcpgjaaGreat
open Go.RowKit

def greedyErr (n : Int) (xs os : List Int) : Int := if asked n xs = 0 then (if ordOk n.toNat os then 0 else 2) else asked n xs
def greedyR (n : Int) (xs os : List Int) : List Int := if asked n xs = 0 then (if ordOk n.toNat os then greedyL n.toNat xs (os.map Int.toNat) else []) else []

theorem ord_range {n : Nat} {os : List Int} (h : ordOk n os = true) : ∀ j, j < n → 0 ≤ os.getD j 0 ∧ os.getD j 0 < n := fun j hj => by
  obtain ⟨h1, h2, _⟩ := (ordOk_facts h).2 j hj
  exact ⟨h1, h2⟩

end Go.Proofs.YtmepndnckcpgjaaGreat
