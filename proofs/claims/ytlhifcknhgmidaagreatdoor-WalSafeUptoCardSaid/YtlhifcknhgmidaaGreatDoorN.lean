/- A part of our own proof. -/
import Derived.Test.YtlhifcknhgmidaaGreatDoorM
open Go Go.GG Go.Proofs
set_option linter.unusedVariables false
namespace Go.Proofs.YtlhifcknhgmidaaGreatDoor.gg
theorem yRc : zNg = some true := zVi.of_some 60 (by decide +kernel)
end Go.Proofs.YtlhifcknhgmidaaGreatDoor.gg
