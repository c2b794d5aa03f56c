/- Walks: least (both), sized, submodular, asked. -/
import Derived.Test.YtmepndnckcpgjaaGreatW4
namespace Go.Proofs.YtmepndnckcpgjaaGreat
open Go.RowKit

end Go.Proofs.YtmepndnckcpgjaaGreat
