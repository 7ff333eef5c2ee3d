/-
  the reference's Write.
-/
import Derived.Test.YthckjpcknmmagaaDoorWr
namespace Go.Proofs.YthckjpcknmmagaaDoor
open Go.RowKit
set_option maxRecDepth 100000
set_option maxHeartbeats 400000

end Go.Proofs.YthckjpcknmmagaaDoor
