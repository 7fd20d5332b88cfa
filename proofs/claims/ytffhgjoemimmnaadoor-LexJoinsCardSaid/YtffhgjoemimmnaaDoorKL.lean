/- The examples that the statements begin with. -/
import Derived.Test.YtffhgjoemimmnaaDoorK8
set_option linter.unusedVariables false
namespace Go.Proofs.YtffhgjoemimmnaaDoor
open Go Go.Aev Go.RowKit
set_option maxRecDepth 100000 in
theorem lives_eq (γ : Type) (K : Bool → Option γ) : Sp.law09_lives γ K = K true := by
  kernel_rfl
end Go.Proofs.YtffhgjoemimmnaaDoor
