/- A plan as it comes in, once more. Own work. -/
import Derived.Test.YtmnohdkfnkgcdaaR12
import Derived.Test.YtmnohdkfnkgcdaaRR
import Derived.Test.YtmnohdkfnkgcdaaSyR
namespace Go.Proofs.Ytmnohdkfnkgcdaa
open Go Go.Sy
set_option linter.unusedVariables false
set_option linter.unusedSimpArgs false
end Go.Proofs.Ytmnohdkfnkgcdaa
