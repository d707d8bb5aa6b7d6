/- WireRight: for every circuit, every number and every four lists of words the law returns true (the outputs are the graph's, whatever the masks and the tape), and its arguments read afterwards as they read before. No condition: the statement is the one of the row, for every input. -/
import Derived.Test.YtmodeilippcbnaaR06
import Derived.Test.YtmodeilippcbnaaR25
import Derived.Test.YtmodeilippcbnaaR28
set_option linter.all false
namespace Go.Proofs.Ytmodeilippcbnaa
theorem wireRight_holds : Rows.WireRightSaid := Go.Ab.Gl.right_of fun hd hv h0 h1 h2 h3 _ hQ => Go.Ab.Ex.f6_c Go.Ab.Ex.gatC Go.Ab.Ex.plainC hd hv h0 h1 h2 h3 hQ
end Go.Proofs.Ytmodeilippcbnaa
