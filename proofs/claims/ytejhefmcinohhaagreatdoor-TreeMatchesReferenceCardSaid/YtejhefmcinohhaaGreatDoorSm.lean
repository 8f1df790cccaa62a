/- Digests: the walk of 'DigestChains'. -/
import Derived.Test.YtejhefmcinohhaaGreatDoorSi
set_option linter.unusedSimpArgs false
set_option linter.unusedVariables false
set_option maxRecDepth 100000
namespace Go.Proofs.YtejhefmcinohhaaGreatDoor
open Go.RowKit
namespace S

end S
end Go.Proofs.YtejhefmcinohhaaGreatDoor
