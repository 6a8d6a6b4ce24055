/- Chapter 18 (denote): the calls check, behind, Copy: what they give, by walks. -/
import Derived.Test.YtndkgjoaljcijaaBytes
import Derived.Test.YtndkgjoaljcijaaPlain18
set_option linter.unusedSimpArgs false
set_option linter.unusedVariables false
namespace Go.Proofs.Ytndkgjoaljcijaa
open Go.RowKit

end Go.Proofs.Ytndkgjoaljcijaa
