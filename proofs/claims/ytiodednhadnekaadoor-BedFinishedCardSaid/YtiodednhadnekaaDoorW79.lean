/- Walks: BedFinished. -/
import Derived.Test.YtiodednhadnekaaDoorW78
import Derived.Test.YtiodednhadnekaaDoorPlain23
namespace Go.Proofs.YtiodednhadnekaaDoor
open Go.RowKit Go.Deep

theorem f10_any (A : Option Addr) (n c : Nat) (b : List (List Int)) (w : World) (hs : CameB w A n c b) (ht : Tab w) :
    Calls Tryd.prog 10 #[.slice A n c] w fun e w' => e = .returned (.bool true) ∧ Below w.heap.size w w' :=
  f10_if (fun _ _ h1 h7 hb hsw => evans_bed h1 h7 hb hsw) A n c b w hs ht
end Go.Proofs.YtiodednhadnekaaDoor
