/- Walks: inner, outer, least (both), slices.Min, all. -/
import Derived.Test.YtmepndnckcpgjaaGreatW3
namespace Go.Proofs.YtmepndnckcpgjaaGreat
open Go.RowKit

end Go.Proofs.YtmepndnckcpgjaaGreat
