/- Contracts of layer 3: when one arrives. -/
import Derived.Test.YtcoelhpmkhimpaaGreatDoorLeaveC
import Derived.Test.YtcoelhpmkhimpaaGreatDoorFlow
import Derived.Test.YtcoelhpmkhimpaaGreatDoorTreeC
namespace Go.Proofs.YtcoelhpmkhimpaaGreatDoor
open Go.RowKit
set_option linter.unusedVariables false
set_option linter.unusedSimpArgs false
end Go.Proofs.YtcoelhpmkhimpaaGreatDoor
