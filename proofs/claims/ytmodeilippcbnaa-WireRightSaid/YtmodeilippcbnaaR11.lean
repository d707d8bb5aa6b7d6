/- Wire: the and gadget, by the document. -/
import Derived.Test.YtmodeilippcbnaaR08
set_option linter.all false
namespace Go.Ab.Ex
open Go.Proofs
set_option maxRecDepth 100000


end Go.Ab.Ex
