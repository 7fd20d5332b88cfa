/- What must come of every program: it comes. -/
import Derived.Test.YtimdilbcijgadaaGreatDoorK3B
import Derived.KernelRfl
set_option linter.unusedVariables false
namespace Go.Proofs.YtimdilbcijgadaaGreatDoor
open Go Go.Aev Go.RowKit
theorem lives_eq (γ : Type) (K : Bool → Option γ) : Sp.law13_lives γ K = K true := by kernel_rfl
end Go.Proofs.YtimdilbcijgadaaGreatDoor
