/- A reader that is none reads nothing: the plain law. -/
import Derived.Test.YtgkdcldmepodfaaM
open Go Go.GG
set_option linter.unusedVariables false
namespace Go.Proofs.Ytgkdcldmepodfaa.gg
theorem law_WireNobody (x : Int × Int × List Int × Int) : ∃ k, law02_WireNobody k x = some true := ⟨40, by rfl⟩
end Go.Proofs.Ytgkdcldmepodfaa.gg
