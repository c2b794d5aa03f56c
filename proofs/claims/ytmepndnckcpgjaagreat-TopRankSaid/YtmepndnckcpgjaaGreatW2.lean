/- Walks: Cost. -/
import Derived.Test.YtmepndnckcpgjaaGreatW1
namespace Go.Proofs.YtmepndnckcpgjaaGreat
open Go.RowKit

end Go.Proofs.YtmepndnckcpgjaaGreat
