import Derived.Test.YtbhobmngnjfgfaaDoorChSmM
/-
  'smallestSet' over the closure of 'LeastCover'.
-/

namespace Go.Proofs.YtbhobmngnjfgfaaDoor
open Go.RowKit

end Go.Proofs.YtbhobmngnjfgfaaDoor
