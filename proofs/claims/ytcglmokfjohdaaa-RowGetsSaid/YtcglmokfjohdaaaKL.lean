/- The examples that the statements begin with. -/
import Derived.Test.YtcglmokfjohdaaaK3
set_option linter.unusedVariables false
namespace Go.Proofs.Ytcglmokfjohdaaa
open Go Go.Aev Go.RowKit
set_option maxRecDepth 100000 in
theorem lives_eq (γ : Type) (K : Bool → Option γ) : Sp.law02_lives γ K = K true := by
  kernel_rfl
end Go.Proofs.Ytcglmokfjohdaaa
