/- A part of our own proof. -/
import Derived.Test.YtlhifcknhgmidaaGreatDoorM
open Go Go.GG Go.Proofs
set_option linter.unusedVariables false
namespace Go.Proofs.YtlhifcknhgmidaaGreatDoor.gg
theorem xP4:zZ8=some true:=yNd.of_some 60 (by decide+kernel)
end Go.Proofs.YtlhifcknhgmidaaGreatDoor.gg
