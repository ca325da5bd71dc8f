/- SHA-2: the step of a block of words of 64 bits. -/
import Derived.Test.YtjednaendedpdaaGreatM16
namespace Go.Proofs.YtjednaendedpdaaGreat
set_option maxRecDepth 100000
set_option linter.unusedVariables false
open Go Go.RowKit Sha

end Go.Proofs.YtjednaendedpdaaGreat
