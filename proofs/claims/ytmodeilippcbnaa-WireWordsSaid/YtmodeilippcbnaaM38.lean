/- WireWords: for every circuit, every order and every four lists of words the law returns true (the words that come in, and the outputs' words, are the document's), and its arguments read afterwards as they read before. No condition: the statement is the one of the row, for every input. -/
import Derived.Test.YtmodeilippcbnaaM37
import Derived.Test.YtmodeilippcbnaaM33
set_option linter.all false
namespace Go.Proofs.Ytmodeilippcbnaa
theorem wireWords_holds : Rows.WireWordsSaid := Go.Ab.Gl.words_of fun hv h0 h1 h2 h3 _ hQ => Go.Ab.Ex.f5_c Go.Ab.Ex.gatC hv h0 h1 h2 h3 hQ
end Go.Proofs.Ytmodeilippcbnaa
