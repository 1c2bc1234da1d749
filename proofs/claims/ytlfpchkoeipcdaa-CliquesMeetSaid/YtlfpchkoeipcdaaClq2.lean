
/-
  A vector as the document has it; a vector of ages.
-/
import Derived.Test.YtlfpchkoeipcdaaClq
import Derived.Test.YtlfpchkoeipcdaaHds
import Derived.Deep.RegionHeld3
namespace Go.Proofs.Ytlfpchkoeipcdaa
open Go.RowKit
set_option linter.unusedVariables false
set_option linter.unusedSimpArgs false

end Go.Proofs.Ytlfpchkoeipcdaa
