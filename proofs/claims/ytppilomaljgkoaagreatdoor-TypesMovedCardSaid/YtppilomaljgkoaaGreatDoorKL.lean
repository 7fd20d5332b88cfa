/- What must come of every program comes of this one. -/
import Derived.Test.YtppilomaljgkoaaGreatDoorK3B
import Derived.KernelRfl
set_option linter.unusedVariables false
set_option linter.unusedSimpArgs false
set_option maxRecDepth 100000
namespace Go.Proofs.YtppilomaljgkoaaGreatDoor
open Go Go.Aev Go.RowKit Go.Sort
theorem lives_eq (γ : Type) (K : Bool → Option γ) : Sp.law14_lives γ K = K true := by kernel_rfl
end Go.Proofs.YtppilomaljgkoaaGreatDoor
