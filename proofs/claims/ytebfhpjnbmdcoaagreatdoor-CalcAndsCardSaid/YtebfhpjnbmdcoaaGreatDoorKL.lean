/- What must come of every program comes. -/
import Derived.Test.YtebfhpjnbmdcoaaGreatDoorK3B
set_option linter.unusedVariables false
set_option linter.unusedSimpArgs false
namespace Go.Proofs.YtebfhpjnbmdcoaaGreatDoor
open Go Go.Aev Go.RowKit
set_option maxRecDepth 100000
theorem lives_eq (γ : Type) (K : Bool → Option γ) : Sp.law16_lives γ K = K true := by kernel_rfl
end Go.Proofs.YtebfhpjnbmdcoaaGreatDoor
