/- A part of our own proof. -/
import Derived.Test.YtlhifcknhgmidaaGreatDoorN
import Derived.Test.YtlhifcknhgmidaaGreatDoorWI
open Go Go.GG Go.Proofs
set_option linter.unusedVariables false
namespace Go.Proofs.YtlhifcknhgmidaaGreatDoor.gg
abbrev xU1:=List (Int×Int×Bool×List Int×List Int)
theorem xPj (A:List Sg) (s:Sg):vY (A++ [s])=vY A++s.1:=by rw [yQ3,vY,vY,List.append_nil]
end Go.Proofs.YtlhifcknhgmidaaGreatDoor.gg
