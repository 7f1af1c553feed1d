import Derived.Test.YtbhobmngnjfgfaaDoorGq12
/-
  'slices.IndexFunc' and 'ContainsFunc' over the function of 'WordModel'.
-/

namespace Go.Proofs.YtbhobmngnjfgfaaDoor
open Go.RowKit

end Go.Proofs.YtbhobmngnjfgfaaDoor
