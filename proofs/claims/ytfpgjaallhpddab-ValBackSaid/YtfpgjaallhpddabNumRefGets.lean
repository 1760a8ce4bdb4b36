/- The walks of the reference's GetInt and GetText. Own work. -/
import Derived.Test.YtfpgjaallhpddabNumRefGet
import Derived.Test.YtfpgjaallhpddabNumGets
set_option linter.unusedVariables false
namespace Go.Proofs.Ytfpgjaallhpddab
open Go Go.RowKit OE

end Go.Proofs.Ytfpgjaallhpddab
