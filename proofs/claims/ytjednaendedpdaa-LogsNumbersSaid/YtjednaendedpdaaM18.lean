/- SHA-2: the step of a block of words of 64 bits. -/
import Derived.Test.YtjednaendedpdaaM13
namespace Go.Proofs.Ytjednaendedpdaa
set_option maxRecDepth 100000
set_option linter.unusedVariables false
open Go Go.RowKit Sha

end Go.Proofs.Ytjednaendedpdaa
