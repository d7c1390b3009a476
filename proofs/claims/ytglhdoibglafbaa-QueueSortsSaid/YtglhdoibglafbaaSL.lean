/- The shelf's sort laid at entries. -/
import Derived.Test.YtglhdoibglafbaaSG
import Derived.Shelf.SlLaysF0
import Derived.Shelf.Lay
import Derived.Ground.SlsfProg
namespace Go.Proofs.Ytglhdoibglafbaa
open Go Go.RowKit Go.Shelf
set_option maxRecDepth 100000
set_option linter.unusedVariables false

shelf_lay_g SlLaysF0.n6 Slsf 6 at Try 84 as sortN
end Go.Proofs.Ytglhdoibglafbaa
