/- WireRandoms: for every circuit and every order the law returns true (the number of random words is that of the document's code), and its arguments read afterwards as they read before. No condition: the statement is the one of the row, for every input. -/
import Derived.Test.YtmodeilippcbnaaM35
import Derived.Test.YtmodeilippcbnaaM33
set_option linter.all false
namespace Go.Proofs.Ytmodeilippcbnaa
theorem wireRandoms_holds : Rows.WireRandomsSaid := Go.Ab.Gl.randoms_of fun hv _ hQ => Go.Ab.Ex.f4_c Go.Ab.Ex.gatC hv hQ
end Go.Proofs.Ytmodeilippcbnaa
