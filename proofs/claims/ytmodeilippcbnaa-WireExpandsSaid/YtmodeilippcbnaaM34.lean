/- WireExpands: for every circuit and every order the law returns true (the program's code and answer are the document's, and the code can be executed), and its arguments read afterwards as they read before. No condition: the statement is the one of the row, for every input. -/
import Derived.Test.YtmodeilippcbnaaM06
import Derived.Test.YtmodeilippcbnaaM32
import Derived.Test.YtmodeilippcbnaaM33
set_option linter.all false
namespace Go.Proofs.Ytmodeilippcbnaa
theorem wireExpands_holds : Rows.WireExpandsSaid := Go.Ab.Gl.expands_of fun hv _ hQ => Go.Ab.Ex.f3_c Go.Ab.Ex.gatC hv hQ
end Go.Proofs.Ytmodeilippcbnaa
