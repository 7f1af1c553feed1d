import Derived.BigQuiet
import Derived.Test.YtbhobmngnjfgfaaDoorSpecCoverM
/-
  'LeastRule' of the reference; both.
-/


namespace Go.Proofs.YtbhobmngnjfgfaaDoor
open Go.RowKit


end Go.Proofs.YtbhobmngnjfgfaaDoor
