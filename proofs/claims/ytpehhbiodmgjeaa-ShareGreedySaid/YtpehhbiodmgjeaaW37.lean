/- The kit's contract of slices.SortFunc laid at this program's copy for [][]int. -/
import Derived.Test.YtpehhbiodmgjeaaBase
import Derived.Shelf.SlSortCmp.NoneTotal
import Derived.Shelf.Lay
import Derived.Ground.SlsfProg
namespace Go.Proofs.Ytpehhbiodmgjeaa
open Go.Shelf Go.RowKit Go.Lib Go.Sort
shelf_lay_g SlLaysF.n6 Slsf 6 at Try 76 as Try.sortRows
end Go.Proofs.Ytpehhbiodmgjeaa
